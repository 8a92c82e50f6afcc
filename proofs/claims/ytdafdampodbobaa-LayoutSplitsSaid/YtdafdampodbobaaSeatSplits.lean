/- The law of splitting: what is split and closed again is as it was; what the law walks through. -/
import Derived.Test.YtdafdampodbobaaSeatGoes
namespace Go.Eng
set_option linter.unusedSimpArgs false
set_option linter.unusedVariables false

theorem wths_append (id : Int) (by' : List Tr) (side : Bool) (a b : List Tr) : wths id by' side (a ++ b) = wths id by' side a ++ wths id by' side b := by
  induction a with
  | nil => rfl
  | cons t a ih => simp only [List.cons_append, wths, ih, List.append_assoc]
theorem flat_one (side : Bool) (t : Tr) : flat side [t] = flat1 side t := by simp [flat]
theorem wths_one (id : Int) (by' : List Tr) (side : Bool) (t : Tr) : wths id by' side [t] = flat side (wth id by' t) := by simp [wths]
theorem flat1_other {side : Bool} {t : Tr} (h : Other side t) : flat1 side t = [t] := by
  cases t with
  | win i => rfl
  | grp s ks => simp only [flat1]; rw [if_neg h]

mutual
theorem back_tree (h n : Int) (side : Bool) (hne : h ≠ n) : ∀ t, Nf t → n ∉ ids t → ∃ U, wth h [.grp side [.win h, .win n]] t = [U] ∧ wth n [] U = [t] ∧ ∀ s, Other s t → wths n [] s (flat1 s U) = [t]
  | .win i, _, hn => by
    simp only [ids, List.mem_singleton] at hn
    by_cases hi : i = h
    · subst hi
      refine ⟨.grp side [.win i, .win n], by rw [wth, if_pos rfl], ?_, fun s _ => ?_⟩
      · simp [wth, wths, hne, flat, flat1, wrap]
      · by_cases hs : side = s
        · subst hs
          simp [flat1, wth, wths, hne, flat]
        · rw [flat1, if_neg hs]
          simp [wth, wths, hne, flat, flat1, wrap]
    · refine ⟨.win i, by rw [wth, if_neg hi], by rw [wth, if_neg (fun hx => hn hx.symm)], fun s _ => ?_⟩
      have : ¬ i = n := fun hx => hn hx.symm
      simp [flat1, wths, wth, this, flat]
  | .grp s' ks, hf, hn => by
    rw [Nf] at hf
    rw [ids] at hn
    obtain ⟨h1, h2⟩ := back_trees h n side hne s' ks hf.2 hn
    have hl : ¬ (wths h [.grp side [.win h, .win n]] s' ks).length < 2 := by omega
    have hk : ¬ ks.length < 2 := by omega
    have hw : wth n [] (.grp s' (wths h [.grp side [.win h, .win n]] s' ks)) = [.grp s' ks] := by rw [wth, h1, wrap, if_neg hk]
    refine ⟨.grp s' (wths h [.grp side [.win h, .win n]] s' ks), by rw [wth, wrap, if_neg hl], hw, fun s hs => ?_⟩
    have hss : ¬ s' = s := hs
    rw [flat1, if_neg hss, wths_one, hw, flat_one, flat1, if_neg hss]
theorem back_trees (h n : Int) (side : Bool) (hne : h ≠ n) (s' : Bool) : ∀ l, Nfs s' l → n ∉ idss l → wths n [] s' (wths h [.grp side [.win h, .win n]] s' l) = l ∧ l.length ≤ (wths h [.grp side [.win h, .win n]] s' l).length
  | [], _, _ => by simp [wths]
  | t :: r, hf, hn => by
    rw [Nfs] at hf
    rw [idss, List.mem_append, not_or] at hn
    obtain ⟨U, h1, h2, h3⟩ := back_tree h n side hne t hf.1 hn.1
    obtain ⟨h4, h5⟩ := back_trees h n side hne s' r hf.2.2 hn.2
    have h6 := h3 s' hf.2.1
    rw [wths, h1, flat_one, wths_append, h6, h4]
    refine ⟨rfl, ?_⟩
    have h7 : 0 < (flat1 s' U).length := by
      cases hc : flat1 s' U with
      | nil => rw [hc] at h6; simp [wths] at h6
      | cons x l => simp
    rw [List.length_append, List.length_cons]
    omega
end

section
variable {k : Nat} {S : LS}

/-- Behind a split that is made. -/
def madeS (S : LS) (side : Bool) : LS := { S with tree := rsplitT S side, last := S.last + 1, here := S.last + 1 }

theorem Inv.made (h : Inv k S) (hk : k ≤ 1000) {side : Bool} (hs : splitOk S (rsplitT S side) = true) : splitS S side = madeS S side ∧ splitA S side = .tuple #[i64 (S.last + 1), i64 0] ∧ Inv (k + 1) (madeS S side) := by
  have hn := h.next hk
  have hsm := h.split_same hk side
  have hi := h.split hk side
  have he : rsplitS S side = madeS S side := by simp only [rsplitS, hs, if_true, hn]; rfl
  have ha : rsplitA S side = .tuple #[i64 (S.last + 1), i64 0] := by simp only [rsplitA, hs, if_true, hn]
  rw [he] at hi
  exact ⟨hsm.1.trans he, hsm.2.trans ha, hi⟩
theorem Inv.kept (h : Inv k S) (hk : k ≤ 1000) {side : Bool} (hs : splitOk S (rsplitT S side) = false) : splitS S side = S ∧ splitA S side = .tuple #[i64 0, i64 33] := by
  have hsm := h.split_same hk side
  have he : rsplitS S side = S := by simp only [rsplitS, hs, Bool.false_eq_true, if_false]
  have ha : rsplitA S side = .tuple #[i64 0, i64 33] := by simp only [rsplitA, hs, Bool.false_eq_true, if_false]
  exact ⟨hsm.1.trans he, hsm.2.trans ha⟩

theorem Inv.fresh (h : Inv k S) : S.last + 1 ∉ ids S.tree := fun hx => by have := h.lo _ hx; omega

theorem Inv.back (h : Inv k S) (hk : k ≤ 1000) (side : Bool) : wth (S.last + 1) [] (rsplitT S side) = [S.tree] := by
  have hh := h.lo _ h.hr
  obtain ⟨U, h1, h2, _⟩ := back_tree S.here (S.last + 1) side (by omega) S.tree h.nf h.fresh
  have ht := h.split_tree hk side
  have hp : pairG S side = .grp side [.win S.here, .win (S.last + 1)] := by unfold pairG; rw [h.next hk]
  unfold splitTree at ht
  rw [hp, h1] at ht
  simp only [List.cons.injEq, and_true] at ht
  rw [← ht]
  exact h2

/-- Where the new one stands: right behind the one that was at hand. -/
theorem Inv.made_at (h : Inv k S) (hk : k ≤ 1000) {side : Bool} : ∃ j, j < (area S).length ∧ (area (madeS S side)).length = (area S).length + 1 ∧ idAt (area S) j = S.here ∧ idAt (area (madeS S side)) j = S.here ∧ idAt (area (madeS S side)) (j + 1) = S.last + 1 := by
  obtain ⟨a, b, h1, h2⟩ := h.split_ids hk side
  have l1 : (area S).length = a.length + 1 + b.length := by rw [h.alen, h1]; simp; omega
  have l2 : (area (madeS S side)).length = a.length + 2 + b.length := by rw [area_length]; show (ids (rsplitT S side)).length = _; rw [h2]; simp; omega
  have g1 := idAt_ids (area S) a.length (by omega)
  have g2 := idAt_ids (area (madeS S side)) a.length (by omega)
  have g3 := idAt_ids (area (madeS S side)) (a.length + 1) (by omega)
  rw [area_ids, h1] at g1
  rw [area_ids] at g2 g3
  rw [show (madeS S side).tree = rsplitT S side from rfl, h2] at g2 g3
  refine ⟨a.length, by omega, by omega, ?_, ?_, ?_⟩
  · simpa using g1.symm
  · simpa using g2.symm
  · simpa [List.getElem?_append_right] using g3.symm

def backS (S : LS) : LS := { S with last := S.last + 1 }

theorem Inv.close_back (h : Inv k S) (hk : k ≤ 900) {side : Bool} (hi : Inv (k + 1) (madeS S side)) : closeS (madeS S side) (S.last + 1) = backS S ∧ closeA (madeS S side) (S.last + 1) = 0 := by
  obtain ⟨j, hj, hl, e1, e2, e3⟩ := h.made_at (by omega) (side := side)
  have hix := idx_at hi.nd (j := j + 1) (by omega)
  rw [e3] at hix
  have hle := h.le
  have hal := h.alen
  have hneg : ¬ idxId (area (madeS S side)) (S.last + 1) < 0 := by rw [hix]; omega
  have hb : wth (S.last + 1) [] (madeS S side).tree = [S.tree] := h.back (by omega) side
  have hp : (pred (idxId (area (madeS S side)) (S.last + 1))).toNat = j := by
    rw [hix]
    unfold pred
    rw [w64_id (by omega) (by omega)]
    split <;> omega
  refine ⟨?_, ?_⟩
  · unfold closeS
    simp only [hneg, if_false, hb]
    rw [if_pos (show S.last + 1 = (madeS S side).here from rfl), hp]
    show ({ tree := S.tree, last := S.last + 1, here := idAt (area S) j, rows := S.rows, cols := S.cols } : LS) = _
    rw [e1]
    rfl
  · unfold closeA
    simp only [hneg, if_false, hb]
end

/-! ### The walk -/
def hit (l : List Wn) (id at' : Int) (m : Nat) : Bool := decide (idAt l m = id) && decide (idAt l (m - 1) = at')
/-- Was it seen ahead of number i? -/
def seenB (l : List Wn) (id at' : Int) : Nat → Bool
  | 0 => false
  | m + 1 => seenB l id at' m || (decide (1 ≤ m) && hit l id at' m)

theorem seenB_of {l : List Wn} {id at' : Int} {m : Nat} (h1 : 1 ≤ m) (hh : hit l id at' m = true) : ∀ n, m < n → seenB l id at' n = true := by
  intro n
  induction n with
  | zero => intro h; omega
  | succ n ih =>
    intro h
    rw [seenB]
    by_cases hm : m = n
    · subst hm
      simp [h1, hh]
    · rw [ih (by omega)]
      rfl

section
variable {F : FuncId → Option SFunc} {G : FuncId → List Value → Option Value}

structure NI (h : Hp) (bt rb nb wl : Nat) (l : List Wn) (id at' : Int) (i : Nat) (s : St) : Prop where
  e9 : s.e.get 9 = some (pt bt 0)
  e10 : s.e.get 10 = some (sl rb 0 wl 0)
  e11 : s.e.get 11 = some (i64 at')
  e12 : s.e.get 12 = some (i64 id)
  e14 : s.e.get 14 = some (sl nb 0 l.length 0)
  e15 : s.e.get 15 = some (.bool (seenB l id at' i))
  e16 : s.e.get 16 = some (i64 i)
  heap : s.h = h

theorem next_loop (TT : Tab F G) {h : Hp} {bt rb nb wl : Nat} {l : List Wn} {id at' : Int} {own : Bool} (hl : l.length ≤ 1000) (hg : h.t.get nb = some (.cells (wcells l) 5 own)) {Q : Flow → St → Prop} :
    ∀ (n i : Nat) (s : St), l.length = i + n → 1 ≤ i → NI h bt rb nb wl l id at' i s → (∀ s', NI h bt rb nb wl l id at' l.length s' → Q (.exit 0) s') → Code F G (.loop b3_14) s Q := by
  intro n
  induction n with
  | zero =>
    intro i s hn h1 I hq
    obtain rfl : i = l.length := by omega
    obtain ⟨e, h2⟩ := s
    obtain ⟨e9, e10, e11, e12, e14, e15, e16, rfl⟩ := I
    simp only at e9 e10 e11 e12 e14 e15 e16
    refine Code.loop (Code.seq (Code.seq (Code.ops ?_)))
    simp only [s3_11, ↓wP, wS, Nat.reduceEqDiff, reduceIte, Nat.reduceLeDiff, and_self, cond_true, cond_false, Nat.reduceAdd, Nat.reduceMul, e14, e16, Int.lt_irrefl, decide_false]
    refine Code.cond (t := false) (by simp only [↓wP, wS, Nat.reduceEqDiff, reduceIte, Nat.reduceLeDiff, and_self, cond_true, cond_false, Nat.reduceAdd, Nat.reduceMul]) (fun h => by cases h) (fun _ => Code.exit ?_)
    exact hq _ ⟨by simp only [↓wP, wS, Nat.reduceEqDiff, reduceIte, Nat.reduceLeDiff, and_self, cond_true, cond_false, Nat.reduceAdd, Nat.reduceMul, e9], by simp only [↓wP, wS, Nat.reduceEqDiff, reduceIte, Nat.reduceLeDiff, and_self, cond_true, cond_false, Nat.reduceAdd, Nat.reduceMul, e10], by simp only [↓wP, wS, Nat.reduceEqDiff, reduceIte, Nat.reduceLeDiff, and_self, cond_true, cond_false, Nat.reduceAdd, Nat.reduceMul, e11], by simp only [↓wP, wS, Nat.reduceEqDiff, reduceIte, Nat.reduceLeDiff, and_self, cond_true, cond_false, Nat.reduceAdd, Nat.reduceMul, e12], by simp only [↓wP, wS, Nat.reduceEqDiff, reduceIte, Nat.reduceLeDiff, and_self, cond_true, cond_false, Nat.reduceAdd, Nat.reduceMul, e14], by simp only [↓wP, wS, Nat.reduceEqDiff, reduceIte, Nat.reduceLeDiff, and_self, cond_true, cond_false, Nat.reduceAdd, Nat.reduceMul, e15], by simp only [↓wP, wS, Nat.reduceEqDiff, reduceIte, Nat.reduceLeDiff, and_self, cond_true, cond_false, Nat.reduceAdd, Nat.reduceMul, e16], rfl⟩
  | succ n ih =>
    intro i s hn h1 I hq
    have hil : i < l.length := by omega
    obtain ⟨e, h2⟩ := s
    obtain ⟨e9, e10, e11, e12, e14, e15, e16, rfl⟩ := I
    simp only at e9 e10 e11 e12 e14 e15 e16 hg
    have hlt : (i : Int) < (l.length : Int) := by omega
    have hp0 : ∀ n : Nat, (0 : Int) ≤ (n : Int) := fun n => by omega
    have hw2 : w64 ((i : Int) + 1) = i + 1 := w64_id (by omega) (by omega)
    have hw1 : w64 ((i : Int) - 1) = (i - 1 : Nat) := by rw [w64_id (by omega) (by omega)]; omega
    have hlt1 : ((i - 1 : Nat) : Int) < (l.length : Int) := by omega
    have hr0 := rdT_id hg hil
    have hr1 := rdT_id (i := i - 1) hg (by omega)
    have fin : ∀ e' : Env, e'.get 9 = some (pt bt 0) → e'.get 10 = some (sl rb 0 wl 0) → e'.get 11 = some (i64 at') → e'.get 12 = some (i64 id) → e'.get 14 = some (sl nb 0 l.length 0) → e'.get 15 = some (.bool (seenB l id at' (i + 1))) → e'.get 16 = some (i64 i) →
        Code F G (.ops s3_13) ⟨e', h2⟩ fun fl s' => fl = .next ∧ Code F G (.loop b3_14) s' Q := by
      intro e' q9 q10 q11 q12 q14 q15 q16
      refine Code.ops ?_
      simp only [s3_13, ↓wP, wS, Nat.reduceEqDiff, reduceIte, Nat.reduceLeDiff, and_self, cond_true, cond_false, Nat.reduceAdd, Nat.reduceMul, q16, hw2]
      refine ⟨trivial, ?_⟩
      exact ih (i + 1) _ (by omega) (by omega) ⟨by simp only [↓wP, wS, Nat.reduceEqDiff, reduceIte, Nat.reduceLeDiff, and_self, cond_true, cond_false, Nat.reduceAdd, Nat.reduceMul, q9], by simp only [↓wP, wS, Nat.reduceEqDiff, reduceIte, Nat.reduceLeDiff, and_self, cond_true, cond_false, Nat.reduceAdd, Nat.reduceMul, q10], by simp only [↓wP, wS, Nat.reduceEqDiff, reduceIte, Nat.reduceLeDiff, and_self, cond_true, cond_false, Nat.reduceAdd, Nat.reduceMul, q11], by simp only [↓wP, wS, Nat.reduceEqDiff, reduceIte, Nat.reduceLeDiff, and_self, cond_true, cond_false, Nat.reduceAdd, Nat.reduceMul, q12], by simp only [↓wP, wS, Nat.reduceEqDiff, reduceIte, Nat.reduceLeDiff, and_self, cond_true, cond_false, Nat.reduceAdd, Nat.reduceMul, q14], by simp only [↓wP, wS, Nat.reduceEqDiff, reduceIte, Nat.reduceLeDiff, and_self, cond_true, cond_false, Nat.reduceAdd, Nat.reduceMul, q15], by simp only [↓wP, wS, Nat.reduceEqDiff, reduceIte, Nat.reduceLeDiff, and_self, cond_true, cond_false, Nat.reduceAdd, Nat.reduceMul]; rfl, rfl⟩ hq
    refine Code.loop (Code.seq (Code.seq (Code.ops ?_)))
    simp only [s3_11, ↓wP, wS, Nat.reduceEqDiff, reduceIte, Nat.reduceLeDiff, and_self, cond_true, cond_false, Nat.reduceAdd, Nat.reduceMul, e14, e16, hlt, decide_true]
    refine Code.cond (t := true) (by simp only [↓wP, wS, Nat.reduceEqDiff, reduceIte, Nat.reduceLeDiff, and_self, cond_true, cond_false, Nat.reduceAdd, Nat.reduceMul]) (fun _ => Code.skip ?_) (fun h => by cases h)
    refine Code.seq (Code.block (Code.ops ?_))
    have hsn : seenB l id at' (i + 1) = (seenB l id at' i || hit l id at' i) := by rw [seenB]; simp [h1]
    rw [hsn] at fin
    cases hs : seenB l id at' i with
    | true =>
      rw [hs] at e15 fin
      simp only [s3_12, ↓wP, wS, Nat.reduceEqDiff, reduceIte, Nat.reduceLeDiff, and_self, cond_true, cond_false, Nat.reduceAdd, Nat.reduceMul, e14, e15, e16]
      refine Code.mono (fin _ (by simp only [↓wP, wS, Nat.reduceEqDiff, reduceIte, Nat.reduceLeDiff, and_self, cond_true, cond_false, Nat.reduceAdd, Nat.reduceMul, e9]) (by simp only [↓wP, wS, Nat.reduceEqDiff, reduceIte, Nat.reduceLeDiff, and_self, cond_true, cond_false, Nat.reduceAdd, Nat.reduceMul, e10]) (by simp only [↓wP, wS, Nat.reduceEqDiff, reduceIte, Nat.reduceLeDiff, and_self, cond_true, cond_false, Nat.reduceAdd, Nat.reduceMul, e11]) (by simp only [↓wP, wS, Nat.reduceEqDiff, reduceIte, Nat.reduceLeDiff, and_self, cond_true, cond_false, Nat.reduceAdd, Nat.reduceMul, e12]) (by simp only [↓wP, wS, Nat.reduceEqDiff, reduceIte, Nat.reduceLeDiff, and_self, cond_true, cond_false, Nat.reduceAdd, Nat.reduceMul, e14]) (by simp only [↓wP, wS, Nat.reduceEqDiff, reduceIte, Nat.reduceLeDiff, and_self, cond_true, cond_false, Nat.reduceAdd, Nat.reduceMul, Bool.true_or]) (by simp only [↓wP, wS, Nat.reduceEqDiff, reduceIte, Nat.reduceLeDiff, and_self, cond_true, cond_false, Nat.reduceAdd, Nat.reduceMul, e16])) ?_
      intro fl s' ⟨hfl, hs⟩
      subst hfl
      exact hs
    | false =>
      rw [hs] at e15 fin
      by_cases c1 : idAt l i = id
      · by_cases c2 : idAt l (i - 1) = at'
        · simp only [s3_12, ↓wP, wS, Nat.reduceEqDiff, reduceIte, Nat.reduceLeDiff, and_self, cond_true, cond_false, Nat.reduceAdd, Nat.reduceMul, e11, e12, e14, e15, e16, hlt, hlt1, hp0, hw1, and_self, if_true, Int.toNat_natCast, Nat.add_zero, hr0, hr1, c1, c2, decide_true]
          refine Code.mono (fin _ (by simp only [↓wP, wS, Nat.reduceEqDiff, reduceIte, Nat.reduceLeDiff, and_self, cond_true, cond_false, Nat.reduceAdd, Nat.reduceMul, e9]) (by simp only [↓wP, wS, Nat.reduceEqDiff, reduceIte, Nat.reduceLeDiff, and_self, cond_true, cond_false, Nat.reduceAdd, Nat.reduceMul, e10]) (by simp only [↓wP, wS, Nat.reduceEqDiff, reduceIte, Nat.reduceLeDiff, and_self, cond_true, cond_false, Nat.reduceAdd, Nat.reduceMul, e11]) (by simp only [↓wP, wS, Nat.reduceEqDiff, reduceIte, Nat.reduceLeDiff, and_self, cond_true, cond_false, Nat.reduceAdd, Nat.reduceMul, e12]) (by simp only [↓wP, wS, Nat.reduceEqDiff, reduceIte, Nat.reduceLeDiff, and_self, cond_true, cond_false, Nat.reduceAdd, Nat.reduceMul, e14]) (by simp only [↓wP, wS, Nat.reduceEqDiff, reduceIte, Nat.reduceLeDiff, and_self, cond_true, cond_false, Nat.reduceAdd, Nat.reduceMul, hit, c1, c2, decide_true]; rfl) (by simp only [↓wP, wS, Nat.reduceEqDiff, reduceIte, Nat.reduceLeDiff, and_self, cond_true, cond_false, Nat.reduceAdd, Nat.reduceMul, e16])) ?_
          intro fl s' ⟨hfl, hs⟩
          subst hfl
          exact hs
        · simp only [s3_12, ↓wP, wS, Nat.reduceEqDiff, reduceIte, Nat.reduceLeDiff, and_self, cond_true, cond_false, Nat.reduceAdd, Nat.reduceMul, e11, e12, e14, e15, e16, hlt, hlt1, hp0, hw1, and_self, if_true, Int.toNat_natCast, Nat.add_zero, hr0, hr1, c1, c2, decide_true, decide_false]
          refine Code.mono (fin _ (by simp only [↓wP, wS, Nat.reduceEqDiff, reduceIte, Nat.reduceLeDiff, and_self, cond_true, cond_false, Nat.reduceAdd, Nat.reduceMul, e9]) (by simp only [↓wP, wS, Nat.reduceEqDiff, reduceIte, Nat.reduceLeDiff, and_self, cond_true, cond_false, Nat.reduceAdd, Nat.reduceMul, e10]) (by simp only [↓wP, wS, Nat.reduceEqDiff, reduceIte, Nat.reduceLeDiff, and_self, cond_true, cond_false, Nat.reduceAdd, Nat.reduceMul, e11]) (by simp only [↓wP, wS, Nat.reduceEqDiff, reduceIte, Nat.reduceLeDiff, and_self, cond_true, cond_false, Nat.reduceAdd, Nat.reduceMul, e12]) (by simp only [↓wP, wS, Nat.reduceEqDiff, reduceIte, Nat.reduceLeDiff, and_self, cond_true, cond_false, Nat.reduceAdd, Nat.reduceMul, e14]) (by simp only [↓wP, wS, Nat.reduceEqDiff, reduceIte, Nat.reduceLeDiff, and_self, cond_true, cond_false, Nat.reduceAdd, Nat.reduceMul, hit, c1, c2, decide_true, decide_false]; rfl) (by simp only [↓wP, wS, Nat.reduceEqDiff, reduceIte, Nat.reduceLeDiff, and_self, cond_true, cond_false, Nat.reduceAdd, Nat.reduceMul, e16])) ?_
          intro fl s' ⟨hfl, hs⟩
          subst hfl
          exact hs
      · simp only [s3_12, ↓wP, wS, Nat.reduceEqDiff, reduceIte, Nat.reduceLeDiff, and_self, cond_true, cond_false, Nat.reduceAdd, Nat.reduceMul, e11, e12, e14, e15, e16, hlt, hp0, and_self, if_true, Int.toNat_natCast, Nat.add_zero, hr0, c1, decide_false]
        refine Code.mono (fin _ (by simp only [↓wP, wS, Nat.reduceEqDiff, reduceIte, Nat.reduceLeDiff, and_self, cond_true, cond_false, Nat.reduceAdd, Nat.reduceMul, e9]) (by simp only [↓wP, wS, Nat.reduceEqDiff, reduceIte, Nat.reduceLeDiff, and_self, cond_true, cond_false, Nat.reduceAdd, Nat.reduceMul, e10]) (by simp only [↓wP, wS, Nat.reduceEqDiff, reduceIte, Nat.reduceLeDiff, and_self, cond_true, cond_false, Nat.reduceAdd, Nat.reduceMul, e11]) (by simp only [↓wP, wS, Nat.reduceEqDiff, reduceIte, Nat.reduceLeDiff, and_self, cond_true, cond_false, Nat.reduceAdd, Nat.reduceMul, e12]) (by simp only [↓wP, wS, Nat.reduceEqDiff, reduceIte, Nat.reduceLeDiff, and_self, cond_true, cond_false, Nat.reduceAdd, Nat.reduceMul, e14]) (by simp only [↓wP, wS, Nat.reduceEqDiff, reduceIte, Nat.reduceLeDiff, and_self, cond_true, cond_false, Nat.reduceAdd, Nat.reduceMul, hit, c1, decide_false]; rfl) (by simp only [↓wP, wS, Nat.reduceEqDiff, reduceIte, Nat.reduceLeDiff, and_self, cond_true, cond_false, Nat.reduceAdd, Nat.reduceMul, e16])) ?_
        intro fl s' ⟨hfl, hs⟩
        subst hfl
        exact hs

theorem splits_call (TT : Tab F G) {h : Hp} (hf : FzLt h) {av : Value} {ds : List Deed} (A : ArgAt h av ds) {r c : Int} {side : Bool} : Call F G 3 [i64 r, i64 c, av, .bool side] h fun v _ => v = .bool true := by
  refine Call.enter (TT.g _ _ (by decide)) TT.f3 (Nat.le_of_ble_eq_true rfl) ?_
  simp only [c3, envOf]
  refine Code.seq (Code.ops ?_)
  simp only [s3_0, ↓wP, wS, Nat.reduceEqDiff, reduceIte, Nat.reduceLeDiff, and_self, cond_true, cond_false, Nat.reduceAdd, Nat.reduceMul]
  refine Code.seq (Code.ops ?_)
  simp only [s3_1, ↓wP, wS, Nat.reduceEqDiff, reduceIte, Nat.reduceLeDiff, and_self, cond_true, cond_false, Nat.reduceAdd, Nat.reduceMul]
  refine played_call TT hf A fun S bt bx h1 inv D k1 hb1 => ?_
  simp only [↓wP, wS, Nat.reduceEqDiff, reduceIte, Nat.reduceLeDiff, and_self, cond_true, cond_false, Nat.reduceAdd, Nat.reduceMul]
  have hf1 := k1.fzLt hf
  have nt1 : bt ∉ h1.fz := by rw [k1.fz]; exact hf.not_mem hb1
  have hl16 := inv.le
  have hal := inv.alen
  have hwl := winsOf_len (area S)
  refine Code.seq (Code.seq (Code.ops ?_))
  simp only [s3_2, ↓wP, wS, Nat.reduceEqDiff, reduceIte, Nat.reduceLeDiff, and_self, cond_true, cond_false, Nat.reduceAdd, Nat.reduceMul]
  refine Code.cond (t := false) (by simp only [↓wP, wS, Nat.reduceEqDiff, reduceIte, Nat.reduceLeDiff, and_self, cond_true, cond_false, Nat.reduceAdd, Nat.reduceMul]) (fun h => by cases h) (fun _ => Code.skip ?_)
  refine Code.seq (Code.ops ?_)
  simp only [s3_4, ↓wP, wS, Nat.reduceEqDiff, reduceIte, Nat.reduceLeDiff, and_self, cond_true, cond_false, Nat.reduceAdd, Nat.reduceMul]
  refine wins_call TT hf1 D.t inv.ok fun rv h2 k2 w2 => ?_
  obtain ⟨rb, rfl, u1, u2, u3⟩ := w2
  have D2 := D.mono k2.old
  have hf2 := k2.fzLt hf1
  have nt2 : bt ∉ h2.fz := by rw [k2.fz]; exact nt1
  have hne : rb ≠ bt := by have := D.t.lt; omega
  simp only [↓wP, wS, Nat.reduceEqDiff, reduceIte, Nat.reduceLeDiff, and_self, cond_true, cond_false, Nat.reduceAdd, Nat.reduceMul]
  refine here_call TT D2.t ?_
  simp only [↓wP, wS, Nat.reduceEqDiff, reduceIte, Nat.reduceLeDiff, and_self, cond_true, cond_false, Nat.reduceAdd, Nat.reduceMul]
  refine Code.seq (Code.ops ?_)
  simp only [s3_5, ↓wP, wS, Nat.reduceEqDiff, reduceIte, Nat.reduceLeDiff, and_self, cond_true, cond_false, Nat.reduceAdd, Nat.reduceMul]
  refine split_call TT hf2 D2.t inv.ok inv.sm (by rw [inv.split_tree (by omega)]; simp) nt2 (D2.hz (Nat.le_refl _)) fun h3 k3 a3 => ?_
  have hf3 := k3.fzLt hf2
  have nt3 : bt ∉ h3.fz := by rw [k3.fz]; exact nt2
  have u23 : rb < h3.next := Nat.lt_of_lt_of_le u2 k3.next
  have g3 := k3.keep u2 hne u3
  cases hs : splitOk S (rsplitT S side) with
  | false =>
    obtain ⟨e1, e2⟩ := inv.kept (by omega) hs
    rw [e1] at a3
    rw [e2]
    simp only [↓wP, wS, Nat.reduceEqDiff, reduceIte, Nat.reduceLeDiff, and_self, cond_true, cond_false, Nat.reduceAdd, Nat.reduceMul]
    refine Code.seq (Code.seq (Code.ops ?_))
    have c33 : decide ((33 : Int) ≠ 0) = true := rfl
    simp only [s3_6, ↓wP, wS, Nat.reduceEqDiff, reduceIte, Nat.reduceLeDiff, and_self, cond_true, cond_false, Nat.reduceAdd, Nat.reduceMul, c33]
    refine Code.cond (t := true) (by simp only [↓wP, wS, Nat.reduceEqDiff, reduceIte, Nat.reduceLeDiff, and_self, cond_true, cond_false, Nat.reduceAdd, Nat.reduceMul]) (fun _ => Code.seq (Code.ops ?_)) (fun h => by cases h)
    simp only [s3_7, ↓wP, wS, Nat.reduceEqDiff, reduceIte, Nat.reduceLeDiff, and_self, cond_true, cond_false, Nat.reduceAdd, Nat.reduceMul, eq_self, decide_true]
    refine wins_call TT hf3 a3 inv.ok fun rv h4 k4 w4 => ?_
    obtain ⟨rb4, rfl, v1, v2, v3⟩ := w4
    simp only [↓wP, wS, Nat.reduceEqDiff, reduceIte, Nat.reduceLeDiff, and_self, cond_true, cond_false, Nat.reduceAdd, Nat.reduceMul]
    have g4 := k4.keep u23 (fun x => x) g3
    refine same_call TT (by omega) v3 g4 ?_
    simp only [↓wP, wS, Nat.reduceEqDiff, reduceIte, Nat.reduceLeDiff, and_self, cond_true, cond_false, Nat.reduceAdd, Nat.reduceMul]
    refine here_call TT (a3.mono k4.old) ?_
    simp only [↓wP, wS, Nat.reduceEqDiff, reduceIte, Nat.reduceLeDiff, and_self, cond_true, cond_false, Nat.reduceAdd, Nat.reduceMul, eq_self, decide_true]
    refine Call.known TT.g14 ?_
    simp only [↓wP, wS, Nat.reduceEqDiff, reduceIte, Nat.reduceLeDiff, and_self, cond_true, cond_false, Nat.reduceAdd, Nat.reduceMul]
    refine Code.ret ?_
    simp only [resVs, resV, pack, ↓wP, wS, Nat.reduceEqDiff, reduceIte, Nat.reduceLeDiff, and_self, cond_true, cond_false, Nat.reduceAdd, Nat.reduceMul]
    exact ⟨trivial, _, rfl, rfl⟩
  | true =>
    obtain ⟨e1, e2, inv2⟩ := inv.made (by omega) hs
    obtain ⟨j, hj, hlen, i1, i2, i3⟩ := inv.made_at (by omega) (side := side)
    obtain ⟨cb1, cb2⟩ := inv.close_back (by omega) inv2
    rw [e1] at a3
    rw [e2]
    have hwl2 := winsOf_len (area (madeS S side))
    simp only [↓wP, wS, Nat.reduceEqDiff, reduceIte, Nat.reduceLeDiff, and_self, cond_true, cond_false, Nat.reduceAdd, Nat.reduceMul]
    refine Code.seq (Code.seq (Code.ops ?_))
    have c0 : decide ((0 : Int) ≠ 0) = false := rfl
    simp only [s3_6, ↓wP, wS, Nat.reduceEqDiff, reduceIte, Nat.reduceLeDiff, and_self, cond_true, cond_false, Nat.reduceAdd, Nat.reduceMul, c0]
    refine Code.cond (t := false) (by simp only [↓wP, wS, Nat.reduceEqDiff, reduceIte, Nat.reduceLeDiff, and_self, cond_true, cond_false, Nat.reduceAdd, Nat.reduceMul]) (fun h => by cases h) (fun _ => Code.skip (Code.seq (Code.ops ?_)))
    simp only [s3_8, ↓wP, wS, Nat.reduceEqDiff, reduceIte, Nat.reduceLeDiff, and_self, cond_true, cond_false, Nat.reduceAdd, Nat.reduceMul]
    refine wins_call TT hf3 a3 inv2.ok fun rv h4 k4 w4 => ?_
    obtain ⟨nb, rfl, v1, v2, v3⟩ := w4
    have a4 := a3.mono k4.old
    have g4 := k4.keep u23 (fun x => x) g3
    have hf4 := k4.fzLt hf3
    have nt4 : bt ∉ h4.fz := by rw [k4.fz]; exact nt3
    simp only [↓wP, wS, Nat.reduceEqDiff, reduceIte, Nat.reduceLeDiff, and_self, cond_true, cond_false, Nat.reduceAdd, Nat.reduceMul]
    refine Code.seq (Code.ops ?_)
    simp only [s3_9, ↓wP, wS, Nat.reduceEqDiff, reduceIte, Nat.reduceLeDiff, and_self, cond_true, cond_false, Nat.reduceAdd, Nat.reduceMul]
    refine Code.seq (Code.seq (Code.ops ?_))
    simp only [s3_10, ↓wP, wS, Nat.reduceEqDiff, reduceIte, Nat.reduceLeDiff, and_self, cond_true, cond_false, Nat.reduceAdd, Nat.reduceMul]
    refine Code.block (next_loop TT (h := h4) (bt := bt) (rb := rb) (nb := nb) (wl := (winsOf (area S)).length) (l := winsOf (area (madeS S side))) (id := S.last + 1) (at' := S.here) (by omega) v3 ((winsOf (area (madeS S side))).length - 1) 1 _ (by omega) (Nat.le_refl 1) ⟨by simp only [↓wP, wS, Nat.reduceEqDiff, reduceIte, Nat.reduceLeDiff, and_self, cond_true, cond_false, Nat.reduceAdd, Nat.reduceMul], by simp only [↓wP, wS, Nat.reduceEqDiff, reduceIte, Nat.reduceLeDiff, and_self, cond_true, cond_false, Nat.reduceAdd, Nat.reduceMul], by simp only [↓wP, wS, Nat.reduceEqDiff, reduceIte, Nat.reduceLeDiff, and_self, cond_true, cond_false, Nat.reduceAdd, Nat.reduceMul], by simp only [↓wP, wS, Nat.reduceEqDiff, reduceIte, Nat.reduceLeDiff, and_self, cond_true, cond_false, Nat.reduceAdd, Nat.reduceMul], by simp only [↓wP, wS, Nat.reduceEqDiff, reduceIte, Nat.reduceLeDiff, and_self, cond_true, cond_false, Nat.reduceAdd, Nat.reduceMul], by simp only [↓wP, wS, Nat.reduceEqDiff, reduceIte, Nat.reduceLeDiff, and_self, cond_true, cond_false, Nat.reduceAdd, Nat.reduceMul]; rfl, by simp only [↓wP, wS, Nat.reduceEqDiff, reduceIte, Nat.reduceLeDiff, and_self, cond_true, cond_false, Nat.reduceAdd, Nat.reduceMul]; rfl, rfl⟩ fun s1 I1 => ?_)
    simp only [if_true]
    obtain ⟨e, h4'⟩ := s1
    obtain ⟨q9, q10, q11, q12, q14, q15, _, rfl⟩ := I1
    simp only at q9 q10 q11 q12 q14 q15 a4 g4 hf4 nt4
    have hseen : seenB (winsOf (area (madeS S side))) (S.last + 1) S.here (winsOf (area (madeS S side))).length = true := by
      refine seenB_of (m := j + 1) (by omega) ?_ _ (by omega)
      unfold hit
      rw [winsOf_idAt, winsOf_idAt, i3, Nat.add_sub_cancel, i2]
      simp
    rw [hseen] at q15
    have hw3 : w64 (((winsOf (area S)).length : Int) + 1) = ((winsOf (area (madeS S side))).length : Nat) := by rw [w64_id (by omega) (by omega)]; omega
    have hh : (madeS S side).here = S.last + 1 := rfl
    refine Code.seq (Code.ops ?_)
    simp only [s3_15, ↓wP, wS, Nat.reduceEqDiff, reduceIte, Nat.reduceLeDiff, and_self, cond_true, cond_false, Nat.reduceAdd, Nat.reduceMul, q9, q10, q11, q12, q14, q15, hw3, eq_self, decide_true]
    refine here_call TT a4 ?_
    simp only [↓wP, wS, Nat.reduceEqDiff, reduceIte, Nat.reduceLeDiff, and_self, cond_true, cond_false, Nat.reduceAdd, Nat.reduceMul, q9, q10, q11, q12, hh, eq_self, decide_true]
    have hz4 : h1.next ≤ h4'.next := Nat.le_trans k2.next (Nat.le_trans k3.next k4.next)
    refine close_call TT hf4 a4 inv2.ok inv2.sm (id := S.last + 1) (fun t ts hw hid hx => ?_) nt4 (D.hz hz4) fun h5 k5 a5 => ?_
    · have hi : S.last + 1 ∈ ids (madeS S side).tree := inv2.hr
      have hl1 : (ids (madeS S side).tree).length ≠ 1 := by rw [← inv2.alen]; omega
      rw [(inv2.close_ids hi hl1).1] at hw
      cases hw
      exact inv2.close_ix hx (by rw [inv2.alen]; exact hl1)
    rw [cb1] at a5
    rw [cb2]
    simp only [↓wP, wS, Nat.reduceEqDiff, reduceIte, Nat.reduceLeDiff, and_self, cond_true, cond_false, Nat.reduceAdd, Nat.reduceMul, q9, q10, q11, q12, eq_self, decide_true]
    have u24 : rb < h4'.next := Nat.lt_of_lt_of_le u23 k4.next
    have g5 := k5.keep u24 hne g4
    have ok5 : LOk (backS S) := ⟨inv.ok.good, inv.ok.small⟩
    have hab : area (backS S) = area S := rfl
    refine wins_call TT (k5.fzLt hf4) a5 ok5 fun rv h6 k6 w6 => ?_
    rw [hab] at w6
    obtain ⟨rb6, rfl, z1, z2, z3⟩ := w6
    simp only [↓wP, wS, Nat.reduceEqDiff, reduceIte, Nat.reduceLeDiff, and_self, cond_true, cond_false, Nat.reduceAdd, Nat.reduceMul, q9, q10, q11]
    refine same_call TT (by omega) z3 (k6.keep (Nat.lt_of_lt_of_le u24 k5.next) (fun x => x) g5) ?_
    simp only [↓wP, wS, Nat.reduceEqDiff, reduceIte, Nat.reduceLeDiff, and_self, cond_true, cond_false, Nat.reduceAdd, Nat.reduceMul, q9, q11]
    refine here_call TT (a5.mono k6.old) ?_
    have hb : (backS S).here = S.here := rfl
    simp only [↓wP, wS, Nat.reduceEqDiff, reduceIte, Nat.reduceLeDiff, and_self, cond_true, cond_false, Nat.reduceAdd, Nat.reduceMul, q11, hb, eq_self, decide_true]
    refine Call.known TT.g14 ?_
    simp only [↓wP, wS, Nat.reduceEqDiff, reduceIte, Nat.reduceLeDiff, and_self, cond_true, cond_false, Nat.reduceAdd, Nat.reduceMul]
    refine Code.ret ?_
    simp only [resVs, resV, pack, ↓wP, wS, Nat.reduceEqDiff, reduceIte, Nat.reduceLeDiff, and_self, cond_true, cond_false, Nat.reduceAdd, Nat.reduceMul]
    exact ⟨trivial, _, rfl, rfl⟩
end
end Go.Eng
