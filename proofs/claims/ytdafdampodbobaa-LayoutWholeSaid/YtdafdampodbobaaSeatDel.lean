/- DeleteFunc on lists of windows. -/
import Derived.Test.YtdafdampodbobaaSeatWins
namespace Go.Eng
set_option linter.unusedSimpArgs false
set_option linter.unusedVariables false

section
variable {e : Env} {h : Hp} {Q : Value → Hp → Prop}
def clrV (h : Hp) (sz : Nat) (z : List Value) : Option Value → Option (Value × Hp)
  | some (.slice none _ _) => some (.tuple #[], h)
  | some (.slice (some ⟨b, o, none⟩) n _) =>
    bif Nat.beq n 0 then some (.tuple #[], h)
    else bif Nat.beq z.length sz then (wr h b o (repl z n)).map fun h' => (.tuple #[], h') else none
  | _ => none
def ClearQ (h : Hp) (sz : Nat) (z : List Value) (o : Option Value) (Q : Value → Hp → Prop) : Prop := ∃ v h', clrV h sz z o = some (v, h') ∧ Q v h'

theorem Sim.clear {sz : Nat} {z : List Value} {x : SArg} : Sim (.clear sz z x) e h Q = ClearQ h sz z (arg e x) Q := by
  unfold Sim ClearQ
  simp only [simple]
  cases hx : arg e x with
  | none => simp [clrV]
  | some v =>
    cases v with
    | slice p n c =>
      cases p with
      | none => simp [clrV]
      | some a =>
        obtain ⟨b, o, s⟩ := a
        cases s with
        | some q => simp [clrV]
        | none =>
          simp only [clrV]
          cases h1 : Nat.beq n 0 <;> simp only [cond_true, cond_false]
          cases h2 : Nat.beq z.length sz <;> simp only [cond_true, cond_false]
          cases wr h b o (repl z n) <;> simp
    | _ => simp [clrV]

theorem ClearQ.zero {sz b o cf : Nat} {z : List Value} (hq : Q (.tuple #[]) h) : ClearQ h sz z (some (sl b o 0 cf)) Q := ⟨_, _, rfl, hq⟩

theorem ClearQ.own {sz b o n cf : Nat} {z c : List Value} {csz : Nat} (hn : 0 < n) (hz : z.length = sz) (ho : z.all oneCell = true) (hb : h.t.get b = some (.cells c csz true)) (hle : o + n * sz ≤ c.length) (hf : b ∉ h.fz)
    (hq : ∀ h' : Hp, h'.next = h.next → h'.t.get b = some (.cells (c.take o ++ repl z n ++ c.drop (o + n * sz)) csz true) → Kp (· = b) h h' → Q (.tuple #[]) h') : ClearQ h sz z (some (sl b o n cf)) Q := by
  have h1 : Nat.beq n 0 = false := by rw [beq_dec]; exact decide_eq_false (by omega)
  have h2 : Nat.beq z.length sz = true := by rw [beq_dec]; exact decide_eq_true hz
  have h3 : (repl z n).length = n * sz := by rw [repl_length, hz]
  have h4 : (repl z n).all oneCell = true := by
    clear hn h1 h3 hle hq
    induction n with
    | zero => rfl
    | succ n ih => rw [repl, List.all_append, ho, ih]; rfl
  refine ⟨_, h.put b (.cells (c.take o ++ repl z n ++ c.drop (o + n * sz)) csz true), ?_, hq _ rfl put_get Kp.put⟩
  simp only [clrV, h1, h2, cond_false, cond_true, wr, hb, ble_dec, h3, hle, decide_true, h4, held_false hf, Bool.not_false, Bool.and_self, Option.map_some]
end

theorem wcells_put (l : List Wn) (i : Nat) (v : Wn) (hi : i < l.length) : (wcells l).take (i * 5) ++ v.cells ++ (wcells l).drop (i * 5 + 5) = wcells (l.set i v) := by
  induction l generalizing i with
  | nil => simp at hi
  | cons x l ih =>
    cases i with
    | zero => simp [wcells_cons, Wn.cells]
    | succ i =>
      have hx : x.cells.length = 5 := rfl
      rw [wcells_cons, List.set_cons_succ, wcells_cons, ← ih i (by simpa using hi)]
      rw [show (i + 1) * 5 = x.cells.length + i * 5 by omega, List.take_append, List.drop_append]
      rw [List.take_of_length_le (by omega), show x.cells.length + i * 5 - x.cells.length = i * 5 by omega, List.drop_of_length_le (by omega), show x.cells.length + i * 5 + 5 - x.cells.length = i * 5 + 5 by omega]
      simp only [List.nil_append, List.append_assoc]

/-- What is kept. -/
def keepL (p : Wn → Bool) (l : List Wn) : List Wn := l.filter fun w => !p w

section
variable {F : FuncId → Option SFunc} {G : FuncId → List Value → Option Value}

structure DI (h0 h : Hp) (rb : Nat) (fv : Value) (p : Wn → Bool) (l : List Wn) (j : Nat) (s : St) : Prop where
  e0 : s.e.get 0 = some (sl rb 0 l.length 0)
  e1 : s.e.get 1 = some fv
  e5 : s.e.get 5 = some (i64 (keepL p (l.take j)).length)
  e6 : s.e.get 6 = some (i64 j)
  heap : Kp (· = rb) h s.h
  cont : ∃ L, s.h.t.get rb = some (.cells (wcells L) 5 true) ∧ L.length = l.length ∧ L.take (keepL p (l.take j)).length = keepL p (l.take j) ∧ L.drop j = l.drop j

theorem keep_le (p : Wn → Bool) (l : List Wn) (j : Nat) : (keepL p (l.take j)).length ≤ j := by
  unfold keepL
  have := List.length_filter_le (fun w => !p w) (l.take j)
  simp at this ⊢
  omega

theorem keep_succ (p : Wn → Bool) (l : List Wn) (j : Nat) (w : Wn) (hw : l[j]? = some w) : keepL p (l.take (j + 1)) = keepL p (l.take j) ++ (if p w = true then [] else [w]) := by
  unfold keepL
  rw [List.take_add_one, hw, List.filter_append]
  cases hp : p w <;> simp [hp]

theorem del_round (TT : Tab F G) {h0 h : Hp} (ho : Old h0 h) (hf : FzLt h) {rb : Nat} (hrb0 : h0.next ≤ rb) (hrb : rb < h.next) (hrf : rb ∉ h.fz) {fv : Value} {p : Wn → Bool} (hp : PredOk F G h0 fv p) {l : List Wn} (hl : l.length ≤ 1000) {Q : Flow → St → Prop} :
    ∀ (n j : Nat) (s : St), l.length = j + n → DI h0 h rb fv p l j s → (∀ s', DI h0 h rb fv p l l.length s' → Q (.exit 0) s') → Code F G (.loop b38_11) s Q := by
  intro n
  induction n with
  | zero =>
    intro j s hn I hq
    obtain rfl : j = l.length := by omega
    obtain ⟨e, h2⟩ := s
    obtain ⟨e0, e1, e5, e6, hk, hc⟩ := I
    simp only at e0 e1 e5 e6 hk hc
    refine Code.loop (Code.seq (Code.seq (Code.ops ?_)))
    simp only [s38_5, ↓wP, wS, Nat.reduceEqDiff, reduceIte, Nat.reduceLeDiff, and_self, cond_true, cond_false, Nat.reduceAdd, Nat.reduceMul, e0, e6, Int.lt_irrefl, decide_false]
    refine Code.cond (t := false) (by simp only [↓wP, wS, Nat.reduceEqDiff, reduceIte, Nat.reduceLeDiff, and_self, cond_true, cond_false, Nat.reduceAdd, Nat.reduceMul]) (fun h => by cases h) (fun _ => Code.exit ?_)
    exact hq _ ⟨by simp only [↓wP, wS, Nat.reduceEqDiff, reduceIte, Nat.reduceLeDiff, and_self, cond_true, cond_false, Nat.reduceAdd, Nat.reduceMul, e0], by simp only [↓wP, wS, Nat.reduceEqDiff, reduceIte, Nat.reduceLeDiff, and_self, cond_true, cond_false, Nat.reduceAdd, Nat.reduceMul, e1], by simp only [↓wP, wS, Nat.reduceEqDiff, reduceIte, Nat.reduceLeDiff, and_self, cond_true, cond_false, Nat.reduceAdd, Nat.reduceMul, e5], by simp only [↓wP, wS, Nat.reduceEqDiff, reduceIte, Nat.reduceLeDiff, and_self, cond_true, cond_false, Nat.reduceAdd, Nat.reduceMul, e6], hk, hc⟩
  | succ n ih =>
    intro j s hn I hq
    have hjl : j < l.length := by omega
    have hw := List.getElem?_eq_getElem hjl
    obtain ⟨e, h2⟩ := s
    obtain ⟨e0, e1, e5, e6, hk, L, hL, hLl, hLt, hLd⟩ := I
    simp only at e0 e1 e5 e6 hk hL
    generalize l[j] = w at hw
    have hlt : (j : Int) < (l.length : Int) := by omega
    have h0j : (0 : Int) ≤ (j : Int) := by omega
    have hw2 : w64 ((j : Int) + 1) = j + 1 := w64_id (by omega) (by omega)
    have hkl := keep_le p l j
    have hLw : L[j]? = some w := by
      have := congrArg (·[0]?) hLd
      simp at this
      rw [this, hw]
    refine Code.loop (Code.seq (Code.seq (Code.ops ?_)))
    simp only [s38_5, ↓wP, wS, Nat.reduceEqDiff, reduceIte, Nat.reduceLeDiff, and_self, cond_true, cond_false, Nat.reduceAdd, Nat.reduceMul, e0, e6, hlt, decide_true]
    refine Code.cond (t := true) (by simp only [↓wP, wS, Nat.reduceEqDiff, reduceIte, Nat.reduceLeDiff, and_self, cond_true, cond_false, Nat.reduceAdd, Nat.reduceMul]) (fun _ => Code.skip ?_) (fun h => by cases h)
    refine Code.seq (Code.block (Code.seq (Code.ops ?_)))
    simp only [s38_6, ↓wP, wS, Nat.reduceEqDiff, reduceIte, Nat.reduceLeDiff, and_self, cond_true, cond_false, Nat.reduceAdd, Nat.reduceMul, e0, e6, hlt, h0j, and_self, if_true, Int.toNat_natCast, rdN_w hL hLw]
    refine NewQ.intro fun p7 h3 e7 n3 g3 k3 => ?_
    simp only [↓wP, wS, Nat.reduceEqDiff, reduceIte, Nat.reduceLeDiff, and_self, cond_true, cond_false, Nat.reduceAdd, Nat.reduceMul]
    have hf2 : FzLt h2 := hk.fzLt hf
    refine StoreQ.agg rfl rfl g3 (by simp) (by rw [k3.fz]; exact hf2.not_mem (by omega)) fun h4 n4 g4 k4 => ?_
    simp only [↓wP, wS, Nat.reduceEqDiff, reduceIte, Nat.reduceLeDiff, and_self, cond_true, cond_false, Nat.reduceAdd, Nat.reduceMul, List.append_nil] at g4 ⊢
    have k24 : K0 h2 h4 := k3.andThen k4 (fun x hx hl => by omega)
    refine Code.seq (Code.ops ?_)
    have r4 := rdN_of (n := 5) (o := 0) g4 (by simp [Wn.cells])
    have r4' : rdN h4.t p7 0 5 = some w.cells := by rw [r4]; simp [Wn.cells]
    simp only [s38_7, ↓wP, wS, Nat.reduceEqDiff, reduceIte, Nat.reduceLeDiff, and_self, cond_true, cond_false, Nat.reduceAdd, Nat.reduceMul, e1, r4']
    have o4 : Old h0 h4 := ⟨Nat.le_trans ho.next (Nat.le_trans hk.next k24.next), fun b hb => by
      have hb1 := Nat.lt_of_lt_of_le hb ho.next
      rw [k24.get b (Nat.lt_of_lt_of_le hb1 hk.next) (fun x => x), hk.get b hb1 (by omega), ho.get b hb]⟩
    refine hp h4 w _ o4 (k24.fzLt hf2) fun h5 k5 => ?_
    simp only [↓wP, wS, Nat.reduceEqDiff, reduceIte, Nat.reduceLeDiff, and_self, cond_true, cond_false, Nat.reduceAdd, Nat.reduceMul]
    have k25 : K0 h2 h5 := k24.trans k5
    have kk : Kp (· = rb) h h5 := hk.trans (k25.weaken (fun _ _ hx => hx.elim))
    have hL5 := k25.keep (Nat.lt_of_lt_of_le hrb hk.next) (fun x => x) hL
    have r5 : rdN h5.t p7 0 5 = some w.cells := by
      have := k5.keep (b := p7) (by omega) (fun x => x) g4
      rw [rdN_of (n := 5) (o := 0) this (by simp [Wn.cells])]
      simp [Wn.cells]
    have hLd1 : L.drop (j + 1) = l.drop (j + 1) := by
      have := congrArg (List.drop 1) hLd
      simpa using this
    have hks := keep_succ p l j w hw
    refine Code.cond (t := !p w) (by simp only [↓wP, wS, Nat.reduceEqDiff, reduceIte, Nat.reduceLeDiff, and_self, cond_true, cond_false, Nat.reduceAdd, Nat.reduceMul]) (fun hx => ?_) (fun hx => ?_)
    · have hpw : p w = false := by simpa using hx
      rw [hpw] at hks
      simp only [Bool.false_eq_true, if_false] at hks
      have hki : (keepL p (l.take j)).length < L.length := by omega
      have hlt5 : ((keepL p (l.take j)).length : Int) < (l.length : Int) := by omega
      have h05 : (0 : Int) ≤ ((keepL p (l.take j)).length : Int) := by omega
      have hw5 : w64 (((keepL p (l.take j)).length : Int) + 1) = (keepL p (l.take j)).length + 1 := w64_id (by omega) (by omega)
      refine Code.seq (Code.ops ?_)
      simp only [s38_8, ↓wP, wS, Nat.reduceEqDiff, reduceIte, Nat.reduceLeDiff, and_self, cond_true, cond_false, Nat.reduceAdd, Nat.reduceMul, e0, e5, hlt5, h05, and_self, if_true, Int.toNat_natCast, r5]
      refine StoreQ.agg rfl rfl hL5 (by rw [wcells_length]; omega) (by rw [kk.fz]; exact hrf) fun h6 n6 g6 k6 => ?_
      simp only [↓wP, wS, Nat.reduceEqDiff, reduceIte, Nat.reduceLeDiff, and_self, cond_true, cond_false, Nat.reduceAdd, Nat.reduceMul]
      refine Code.ops ?_
      simp only [s38_9, ↓wP, wS, Nat.reduceEqDiff, reduceIte, Nat.reduceLeDiff, and_self, cond_true, cond_false, Nat.reduceAdd, Nat.reduceMul, e5, hw5]
      refine Code.ops ?_
      simp only [s38_10, ↓wP, wS, Nat.reduceEqDiff, reduceIte, Nat.reduceLeDiff, and_self, cond_true, cond_false, Nat.reduceAdd, Nat.reduceMul, e6, hw2]
      refine ih (j + 1) _ (by omega) ⟨by simp only [↓wP, wS, Nat.reduceEqDiff, reduceIte, Nat.reduceLeDiff, and_self, cond_true, cond_false, Nat.reduceAdd, Nat.reduceMul, e0], by simp only [↓wP, wS, Nat.reduceEqDiff, reduceIte, Nat.reduceLeDiff, and_self, cond_true, cond_false, Nat.reduceAdd, Nat.reduceMul, e1], ?_, by simp only [↓wP, wS, Nat.reduceEqDiff, reduceIte, Nat.reduceLeDiff, and_self, cond_true, cond_false, Nat.reduceAdd, Nat.reduceMul]; rfl, kk.trans k6, L.set (keepL p (l.take j)).length w, ?_, by rw [List.length_set]; exact hLl, ?_, ?_⟩ hq
      · simp only [↓wP, wS, Nat.reduceEqDiff, reduceIte, Nat.reduceLeDiff, and_self, cond_true, cond_false, Nat.reduceAdd, Nat.reduceMul, hks, List.length_append, List.length_singleton]
        rfl
      · rw [g6, wcells_put _ _ _ hki]
      · rw [hks, List.length_append, List.length_singleton, List.take_add_one, List.take_set_of_le (Nat.le_refl _), hLt]
        simp [hki]
      · rw [List.drop_set_of_lt (by omega), hLd1]
    · have hpw : p w = true := by simpa using hx
      rw [hpw] at hks
      simp only [if_true, List.append_nil] at hks
      refine Code.skip ?_
      refine Code.ops ?_
      simp only [s38_10, ↓wP, wS, Nat.reduceEqDiff, reduceIte, Nat.reduceLeDiff, and_self, cond_true, cond_false, Nat.reduceAdd, Nat.reduceMul, e6, hw2]
      refine ih (j + 1) _ (by omega) ⟨by simp only [↓wP, wS, Nat.reduceEqDiff, reduceIte, Nat.reduceLeDiff, and_self, cond_true, cond_false, Nat.reduceAdd, Nat.reduceMul, e0], by simp only [↓wP, wS, Nat.reduceEqDiff, reduceIte, Nat.reduceLeDiff, and_self, cond_true, cond_false, Nat.reduceAdd, Nat.reduceMul, e1], by simp only [↓wP, wS, Nat.reduceEqDiff, reduceIte, Nat.reduceLeDiff, and_self, cond_true, cond_false, Nat.reduceAdd, Nat.reduceMul, hks, e5], by simp only [↓wP, wS, Nat.reduceEqDiff, reduceIte, Nat.reduceLeDiff, and_self, cond_true, cond_false, Nat.reduceAdd, Nat.reduceMul]; rfl, kk, L, hL5, hLl, by rw [hks]; exact hLt, hLd1⟩ hq

/-- A list of windows at a block's beginning. -/
def DAt (h : Hp) (rb : Nat) (l : List Wn) : Prop := ∃ rest, h.t.get rb = some (.cells (wcells l ++ rest) 5 true)

theorem idx_none (p : Wn → Bool) : ∀ (l : List Wn) (i : Nat), idxFrom p l i = -1 → keepL p l = l
  | [], _, _ => rfl
  | w :: l, i, h => by
    simp only [idxFrom] at h
    split at h
    · omega
    · rename_i hp
      have := idx_none p l (i + 1) h
      simp only [keepL, List.filter_cons] at this ⊢
      simp only [Bool.not_eq_true] at hp
      simp [hp, this]
theorem idx_some (p : Wn → Bool) : ∀ (l : List Wn) (i : Nat), idxFrom p l i ≠ -1 → ∃ k, k < l.length ∧ idxFrom p l i = (i + k : Nat) ∧ keepL p (l.take (k + 1)) = l.take k
  | [], _, h => by simp [idxFrom] at h
  | w :: l, i, h => by
    simp only [idxFrom] at h ⊢
    split at h
    · rename_i hp
      refine ⟨0, by simp, by simp [hp], by simp [keepL, hp]⟩
    · rename_i hp
      obtain ⟨k, h1, h2, h3⟩ := idx_some p l (i + 1) h
      simp only [Bool.not_eq_true] at hp
      refine ⟨k + 1, by simp; omega, ?_, ?_⟩
      · simp only [hp, Bool.false_eq_true, if_false, h2]
        omega
      · simp only [keepL] at h3 ⊢
        rw [List.take_succ_cons, List.filter_cons]
        simp [hp, h3]

theorem ss_from {h : Hp} {b n m : Nat} {c : List Value} {own : Bool} (hb : h.t.get b = some (.cells c 5 own)) (hl : c.length = n * 5) (hm : m ≤ n) : sSlice h 5 (sl b 0 n 0) (some (i64 m)) none none = some (sl b (m * 5) (n - m) 0) := by
  have h1 : optNat 0 (some (i64 (m : Int))) = some m := rfl
  have h2 : optNat n none = some n := rfl
  have h3 : n ≤ roomOf c.length 0 5 0 := by simp only [roomOf]; omega
  have h4 : (1 : Nat) ≤ 5 := by omega
  simp only [sSlice, h1, h2, hb, beq_dec, ble_dec, decide_true, hm, h3, h4, Bool.and_self, cond_true, Nat.zero_add]
theorem ss_to {h : Hp} {b n m : Nat} {c : List Value} {own : Bool} (hb : h.t.get b = some (.cells c 5 own)) (hl : c.length = n * 5) (hm : m ≤ n) : sSlice h 5 (sl b 0 n 0) none (some (i64 m)) none = some (sl b 0 m 0) := by
  have h1 : optNat 0 none = some 0 := rfl
  have h2 : optNat n (some (i64 (m : Int))) = some m := rfl
  have h3 : m ≤ roomOf c.length 0 5 0 := by simp only [roomOf]; omega
  have h4 : (1 : Nat) ≤ 5 := by omega
  simp only [sSlice, h1, h2, hb, beq_dec, ble_dec, decide_true, Nat.zero_le, h3, h4, Bool.and_self, cond_true, Nat.zero_mul, Nat.add_zero, Nat.sub_zero]

theorem delete_func (TT : Tab F G) {h0 h : Hp} (ho : Old h0 h) (hf : FzLt h) {rb : Nat} (hrb0 : h0.next ≤ rb) (hrb : rb < h.next) (hrf : rb ∉ h.fz) {fv : Value} {p : Wn → Bool} (hp : PredOk F G h0 fv p) {l : List Wn} (hl : l.length ≤ 1000)
    (hg : h.t.get rb = some (.cells (wcells l) 5 true)) {R : Value → Hp → Prop} (hr : ∀ h', Kp (· = rb) h h' → DAt h' rb (keepL p l) → R (sl rb 0 (keepL p l).length 0) h') : Call F G 38 [sl rb 0 l.length 0, fv] h R := by
  have hp' : PredOk F G h fv p := fun h1 w R o => hp h1 w R (ho.trans o)
  refine Call.enter (TT.g _ _ (by decide)) TT.f38 (Nat.le_of_ble_eq_true rfl) ?_
  simp only [c38, envOf]
  refine Code.seq (Code.ops ?_)
  simp only [s38_0, ↓wP, wS, Nat.reduceEqDiff, reduceIte, Nat.reduceLeDiff, and_self, cond_true, cond_false, Nat.reduceAdd, Nat.reduceMul]
  refine Code.seq (Code.ops ?_)
  simp only [s38_1, ↓wP, wS, Nat.reduceEqDiff, reduceIte, Nat.reduceLeDiff, and_self, cond_true, cond_false, Nat.reduceAdd, Nat.reduceMul]
  refine index_func TT hf hrb hg (by omega) hp' fun h1 k1 => ?_
  simp only [↓wP, wS, Nat.reduceEqDiff, reduceIte, Nat.reduceLeDiff, and_self, cond_true, cond_false, Nat.reduceAdd, Nat.reduceMul]
  have k1' : Kp (· = rb) h h1 := k1.weaken (fun _ _ hx => hx.elim)
  have hg1 := k1.keep hrb (fun x => x) hg
  refine Code.seq (Code.seq (Code.ops ?_))
  simp only [s38_2, ↓wP, wS, Nat.reduceEqDiff, reduceIte, Nat.reduceLeDiff, and_self, cond_true, cond_false, Nat.reduceAdd, Nat.reduceMul]
  by_cases hneg : idxFrom p l 0 = -1
  · refine Code.cond (t := true) (by simp only [↓wP, wS, Nat.reduceEqDiff, reduceIte, Nat.reduceLeDiff, and_self, cond_true, cond_false, Nat.reduceAdd, Nat.reduceMul, hneg]; rfl) (fun _ => Code.seq (Code.ops ?_)) (fun h => by cases h)
    simp only [s38_3, ↓wP, wS, Nat.reduceEqDiff, reduceIte, Nat.reduceLeDiff, and_self, cond_true, cond_false, Nat.reduceAdd, Nat.reduceMul]
    refine Code.ret ?_
    simp only [resVs, resV, pack, ↓wP, wS, Nat.reduceEqDiff, reduceIte, Nat.reduceLeDiff, and_self, cond_true, cond_false, Nat.reduceAdd, Nat.reduceMul]
    rw [idx_none p l 0 hneg] at hr
    exact ⟨trivial, _, rfl, hr _ k1' ⟨[], by rw [List.append_nil]; exact hg1⟩⟩
  · obtain ⟨k, hk1, hk2, hk3⟩ := idx_some p l 0 hneg
    rw [Nat.zero_add] at hk2
    have hw2 : w64 ((k : Int) + 1) = k + 1 := w64_id (by omega) (by omega)
    refine Code.cond (t := false) (by simp only [↓wP, wS, Nat.reduceEqDiff, reduceIte, Nat.reduceLeDiff, and_self, cond_true, cond_false, Nat.reduceAdd, Nat.reduceMul, hk2]; rw [decide_eq_false (by omega)]) (fun h => by cases h) (fun _ => Code.skip ?_)
    refine Code.seq (Code.seq (Code.ops ?_))
    simp only [s38_4, ↓wP, wS, Nat.reduceEqDiff, reduceIte, Nat.reduceLeDiff, and_self, cond_true, cond_false, Nat.reduceAdd, Nat.reduceMul, hk2, hw2]
    have hkl : (keepL p (l.take (k + 1))).length = k := by rw [hk3]; simp; omega
    refine Code.block (del_round TT ho hf hrb0 hrb hrf hp hl (l.length - (k + 1)) (k + 1) _ (by omega) ⟨by simp only [↓wP, wS, Nat.reduceEqDiff, reduceIte, Nat.reduceLeDiff, and_self, cond_true, cond_false, Nat.reduceAdd, Nat.reduceMul], by simp only [↓wP, wS, Nat.reduceEqDiff, reduceIte, Nat.reduceLeDiff, and_self, cond_true, cond_false, Nat.reduceAdd, Nat.reduceMul], by simp only [↓wP, wS, Nat.reduceEqDiff, reduceIte, Nat.reduceLeDiff, and_self, cond_true, cond_false, Nat.reduceAdd, Nat.reduceMul, hkl], by simp only [↓wP, wS, Nat.reduceEqDiff, reduceIte, Nat.reduceLeDiff, and_self, cond_true, cond_false, Nat.reduceAdd, Nat.reduceMul]; rfl, k1', l, hg1, rfl, by rw [hkl, hk3], rfl⟩ fun s' I => ?_)
    simp only [if_true]
    obtain ⟨e, h2⟩ := s'
    obtain ⟨e0, e1, e5, e6, hk, L, hL, hLl, hLt, _⟩ := I
    simp only [List.take_length] at e0 e1 e5 e6 hk hL hLt
    have hle : (keepL p l).length ≤ l.length := List.length_filter_le _ _
    refine Code.seq (Code.ops ?_)
    simp only [s38_12, ↓wP, wS, Nat.reduceEqDiff, reduceIte, Nat.reduceLeDiff, and_self, cond_true, cond_false, Nat.reduceAdd, Nat.reduceMul, e0, e5, Sim.clear]
    have hcl : (wcells L).length = l.length * 5 := by rw [wcells_length, hLl]
    simp only [ss_from hL hcl hle, ↓wP, wS, Nat.reduceEqDiff, reduceIte, Nat.reduceLeDiff, and_self, cond_true, cond_false, Nat.reduceAdd, Nat.reduceMul, Sim.clear]
    have fin : ∀ h3 : Hp, Kp (· = rb) h h3 → (∃ c, h3.t.get rb = some (.cells c 5 true) ∧ c.length = l.length * 5 ∧ c.take ((keepL p l).length * 5) = wcells (keepL p l)) → ∀ e3 : Env, e3.get 0 = some (sl rb 0 l.length 0) → e3.get 5 = some (i64 (keepL p l).length) →
        Code F G (.seq (.ops s38_13) .ret) ⟨e3, h3⟩ fun fl s => (match fl with | .exit _ => False | _ => True) ∧ ∃ vs, resVs s.e s.h [.tmp 4] = some vs ∧ R (pack vs) s.h := by
      intro h3 k3 ⟨c, hc1, hc2, hc3⟩ e3 q0 q5
      refine Code.seq (Code.ops ?_)
      simp only [s38_13, ↓wP, wS, Nat.reduceEqDiff, reduceIte, Nat.reduceLeDiff, and_self, cond_true, cond_false, Nat.reduceAdd, Nat.reduceMul, q0, q5]
      simp only [ss_to hc1 hc2 hle, ↓wP, wS, Nat.reduceEqDiff, reduceIte, Nat.reduceLeDiff, and_self, cond_true, cond_false, Nat.reduceAdd, Nat.reduceMul]
      refine Code.ret ?_
      simp only [resVs, resV, pack, ↓wP, wS, Nat.reduceEqDiff, reduceIte, Nat.reduceLeDiff, and_self, cond_true, cond_false, Nat.reduceAdd, Nat.reduceMul]
      refine ⟨trivial, _, rfl, hr _ k3 ⟨c.drop ((keepL p l).length * 5), ?_⟩⟩
      rw [← hc3, List.take_append_drop]
      exact hc1
    have hpre : (wcells L).take ((keepL p l).length * 5) = wcells (keepL p l) := by
      have h1 : wcells L = wcells (L.take (keepL p l).length) ++ wcells (L.drop (keepL p l).length) := by rw [← wcells_append, List.take_append_drop]
      rw [h1, hLt, List.take_append_of_le_length (by rw [wcells_length]; omega), List.take_of_length_le (by rw [wcells_length]; omega)]
    by_cases hz : l.length - (keepL p l).length = 0
    · rw [hz]
      refine ClearQ.zero ?_
      simp only [↓wP, wS, Nat.reduceEqDiff, reduceIte, Nat.reduceLeDiff, and_self, cond_true, cond_false, Nat.reduceAdd, Nat.reduceMul]
      exact fin _ hk ⟨_, hL, hcl, hpre⟩ _ (by simp only [↓wP, wS, Nat.reduceEqDiff, reduceIte, Nat.reduceLeDiff, and_self, cond_true, cond_false, Nat.reduceAdd, Nat.reduceMul, e0]) (by simp only [↓wP, wS, Nat.reduceEqDiff, reduceIte, Nat.reduceLeDiff, and_self, cond_true, cond_false, Nat.reduceAdd, Nat.reduceMul, e5])
    · refine ClearQ.own (by omega) rfl rfl hL (by omega) (by rw [hk.fz]; exact hrf) fun h3 n3 g3 k3 => ?_
      simp only [↓wP, wS, Nat.reduceEqDiff, reduceIte, Nat.reduceLeDiff, and_self, cond_true, cond_false, Nat.reduceAdd, Nat.reduceMul]
      refine fin _ (hk.trans k3) ⟨_, g3, ?_, ?_⟩ _ (by simp only [↓wP, wS, Nat.reduceEqDiff, reduceIte, Nat.reduceLeDiff, and_self, cond_true, cond_false, Nat.reduceAdd, Nat.reduceMul, e0]) (by simp only [↓wP, wS, Nat.reduceEqDiff, reduceIte, Nat.reduceLeDiff, and_self, cond_true, cond_false, Nat.reduceAdd, Nat.reduceMul, e5])
      · simp only [List.length_append, List.length_take, List.length_drop, repl_length, hcl, List.length_cons, List.length_nil]
        omega
      · rw [List.append_assoc, List.take_append_of_le_length (by simp; omega), List.take_take, Nat.min_self, hpre]
end
end Go.Eng
