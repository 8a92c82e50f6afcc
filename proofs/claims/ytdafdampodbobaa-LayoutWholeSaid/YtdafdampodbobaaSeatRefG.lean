/- The document's tree: size, New, Places, Wins, fits, order. -/
import Derived.Test.YtdafdampodbobaaSeatRefF
namespace Go.Eng
set_option linter.unusedSimpArgs false
set_option linter.unusedVariables false

theorem RAt.cells {Z : Nat → Prop} {h : Hp} {bx : Nat} {S : LS} (a : RAt Z h bx S) : ∃ x y z, h.t.get bx = some (.cells [x, y, z, i64 S.last, i64 S.here, i64 S.rows, i64 S.cols] 0 true) ∧ NAt Z h [x, y, z] S.tree := by
  obtain ⟨_, _, n, h1, h2⟩ := a
  obtain ⟨x, y, z, rfl⟩ := three_eq h2.three.1
  exact ⟨x, y, z, h1, h2⟩

theorem size_r (n : Int) : (if (if 500 < n then 500 else n) > 2 then (if 500 < n then 500 else n) else 2) = clampR n := by unfold clampR; repeat' split <;> omega
theorem size_c (n : Int) : (if (if 1000 < n then 1000 else n) > 2 then (if 1000 < n then 1000 else n) else 2) = clampC n := by unfold clampC; repeat' split <;> omega
theorem clampC_in (n : Int) : InR (clampC n) := by unfold clampC InR; repeat' split <;> omega
theorem clampR_in (n : Int) : InR (clampR n) := by unfold clampR InR; repeat' split <;> omega

theorem rdT_w {t : T AObj} {b : Nat} {l : List Wn} {own : Bool} {i : Nat} {w : Wn} (hb : t.get b = some (.cells (wcells l) 5 own)) (hw : l[i]? = some w) (o : Nat) (ho : o < 5) : rdT t b (i * 5 + o) = w.cells[o]? := by
  obtain ⟨q1, q2⟩ := wcells_at _ _ _ hw
  rw [rdT_of hb]
  have := congrArg (·[o]?) q1
  rw [← this]
  simp [List.getElem?_take, List.getElem?_drop, ho]

theorem wins_pos {S : LS} (ok : LOk S) : 0 < (area S).length := by rw [area_length]; exact ids_pos _ ok.good

section
variable {F : FuncId → Option SFunc} {G : FuncId → List Value → Option Value}

theorem ref_size (TT : Tab F G) {h : Hp} {Z : Nat → Prop} {bx : Nat} {S : LS} (a : RAt Z h bx S) (hn : bx ∉ h.fz) {r c : Int} {R : Value → Hp → Prop}
    (hr : ∀ v h', h'.next = h.next → Kp (· = bx) h h' → RAt Z h' bx { S with rows := clampR r, cols := clampC c } → R v h') : Call F G 30 [pt bx 0, i64 r, i64 c] h R := by
  obtain ⟨x, y, z, hg, hroot⟩ := a.cells
  refine Call.enter (TT.g _ _ (by decide)) TT.f30 (Nat.le_of_ble_eq_true rfl) ?_
  simp only [c30, envOf]
  refine Code.seq (Code.ops ?_)
  simp only [s30_0, ↓wP, wS, Nat.reduceEqDiff, reduceIte, Nat.reduceLeDiff, and_self, cond_true, cond_false, Nat.reduceAdd, Nat.reduceMul]
  refine StoreQ.one rfl hg (by simp) hn fun h1 n1 g1 k1 => ?_
  simp only [↓wP, wS, Nat.reduceEqDiff, reduceIte, Nat.reduceLeDiff, and_self, cond_true, cond_false, Nat.reduceAdd, Nat.reduceMul] at g1 ⊢
  refine Code.ops ?_
  simp only [s30_1, ↓wP, wS, Nat.reduceEqDiff, reduceIte, Nat.reduceLeDiff, and_self, cond_true, cond_false, Nat.reduceAdd, Nat.reduceMul]
  refine StoreQ.one rfl g1 (by simp) (k1.fz ▸ hn) fun h2 n2 g2 k2 => ?_
  simp only [↓wP, wS, Nat.reduceEqDiff, reduceIte, Nat.reduceLeDiff, and_self, cond_true, cond_false, Nat.reduceAdd, Nat.reduceMul] at g2 ⊢
  simp only [resVs, pack]
  rw [size_r, size_c] at g2
  refine ⟨trivial, _, rfl, hr _ _ (n2.trans n1) (k1.trans k2) ⟨by rw [n2, n1]; exact a.lt, a.nz, [x, y, z], g2, ?_⟩⟩
  exact hroot.keep (k1.trans k2) (fun b hb => by rw [hb]; exact a.nz)

theorem ref_new (TT : Tab F G) {h : Hp} (hf : FzLt h) {r c : Int} {R : Value → Hp → Prop} (hr : ∀ bx h', h.next ≤ bx → K0 h h' → RAt (fun b => h.next ≤ b ∧ b ≠ bx) h' bx ⟨.win 1, 1, 1, clampR r, clampC c⟩ → R (pt bx 0) h') : Call F G 18 [i64 r, i64 c] h R := by
  refine Call.enter (TT.g _ _ (by decide)) TT.f18 (Nat.le_of_ble_eq_true rfl) ?_
  simp only [c18, envOf]
  refine Code.seq (Code.ops ?_)
  simp only [s18_0, ↓wP, wS, Nat.reduceEqDiff, reduceIte, Nat.reduceLeDiff, and_self, cond_true, cond_false, Nat.reduceAdd, Nat.reduceMul]
  refine Code.seq (Code.ops ?_)
  simp only [s18_1, ↓wP, wS, Nat.reduceEqDiff, reduceIte, Nat.reduceLeDiff, and_self, cond_true, cond_false, Nat.reduceAdd, Nat.reduceMul]
  refine NewQ.intro fun bx h2 e2 n2 g2 k2 => ?_
  simp only [↓wP, wS, Nat.reduceEqDiff, reduceIte, Nat.reduceLeDiff, and_self, cond_true, cond_false, Nat.reduceAdd, Nat.reduceMul]
  refine Code.seq (Code.ops ?_)
  simp only [s18_2, ↓wP, wS, Nat.reduceEqDiff, reduceIte, Nat.reduceLeDiff, and_self, cond_true, cond_false, Nat.reduceAdd, Nat.reduceMul]
  have hL : RAt (fun b => h.next ≤ b ∧ b ≠ bx) h2 bx ⟨.win 1, 1, 1, 0, 0⟩ := ⟨by omega, fun hx => hx.2 rfl, [i64 0, i64 1, .slice none 0 0], g2, .win 1⟩
  refine ref_size TT hL (k2.fz ▸ hf.not_mem (by omega)) fun v h3 n3 k3 a3 => ?_
  simp only [↓wP, wS, Nat.reduceEqDiff, reduceIte, Nat.reduceLeDiff, and_self, cond_true, cond_false, Nat.reduceAdd, Nat.reduceMul]
  refine Code.seq (Code.ops ?_)
  simp only [s18_3, ↓wP, wS, Nat.reduceEqDiff, reduceIte, Nat.reduceLeDiff, and_self, cond_true, cond_false, Nat.reduceAdd, Nat.reduceMul]
  refine Code.ret ?_
  simp only [resVs, resV, pack, ↓wP, wS, Nat.reduceEqDiff, reduceIte, Nat.reduceLeDiff, and_self, cond_true, cond_false, Nat.reduceAdd, Nat.reduceMul]
  exact ⟨trivial, _, rfl, hr bx h3 (by omega) (k2.andThen k3 (fun x hx hl => by omega)) a3⟩

theorem ref_places (TT : Tab F G) {h : Hp} (hf : FzLt h) {Z : Nat → Prop} {bx : Nat} {S : LS} (a : RAt Z h bx S) (ok : LOk S) (ic : InR S.cols) {R : Value → Hp → Prop} (hr : ∀ r h', K0 h h' → WAt h' h.next r (area S) → R r h') : Call F G 37 [pt bx 0] h R := by
  obtain ⟨x, y, z, hg, hroot⟩ := a.cells
  have lt := a.lt
  refine Call.enter (TT.g _ _ (by decide)) TT.f37 (Nat.le_of_ble_eq_true rfl) ?_
  simp only [c37, envOf]
  refine Code.seq (Code.ops ?_)
  simp only [s37_0, ↓wP, wS, Nat.reduceEqDiff, reduceIte, Nat.reduceLeDiff, and_self, cond_true, cond_false, Nat.reduceAdd, Nat.reduceMul]
  refine Code.seq (Code.draw ?_)
  have r3 := rdN_of (n := 3) (o := 0) hg (by simp)
  simp only [s37_1, ↓wP, wS, Nat.reduceEqDiff, reduceIte, Nat.reduceLeDiff, and_self, cond_true, cond_false, Nat.reduceAdd, Nat.reduceMul, ↓Draw.cons, dS, decide_true, decide_false, rdT_of hg, fzStep_load, r3]
  refine ref_lays_all TT (h0 := h) hroot ok.good ok.small _ _ _ _ _ _ ⟨Nat.le_refl _, fun _ _ => rfl⟩ (fun b hb => ?_) ⟨by omega, by omega⟩ ⟨by omega, by omega⟩ (w64_range _) ic fun r h1 k1 hw => ?_
  · simp only [List.mem_cons] at hb
    rcases hb with rfl | hb
    · exact lt
    · exact hf b hb
  · simp only [↓wP, wS, Nat.reduceEqDiff, reduceIte, Nat.reduceLeDiff, and_self, cond_true, cond_false, Nat.reduceAdd, Nat.reduceMul, ↓Draw.cons, dS, decide_true, decide_false]
    refine Code.ret ?_
    simp only [resVs, resV, pack, ↓wP, wS, Nat.reduceEqDiff, reduceIte, Nat.reduceLeDiff, and_self, cond_true, cond_false, Nat.reduceAdd, Nat.reduceMul]
    exact ⟨trivial, _, rfl, hr _ _ k1.base hw⟩

structure VI (h : Hp) (rb : Nat) (l : List Wn) (i : Nat) (s : St) : Prop where
  e3 : s.e.get 3 = some (sl rb 0 l.length 0)
  e4 : s.e.get 4 = some (i64 i)
  heap : K0 h s.h
  lt : rb < s.h.next
  g : s.h.t.get rb = some (.cells (wcells (decs l i)) 5 true)

theorem ref_wins_loop (TT : Tab F G) {h : Hp} (hf : FzLt h) {rb : Nat} {l : List Wn} (hl : l.length ≤ 1000) (h1l : 1 < l.length) (hrb : h.next ≤ rb) {Q : Flow → St → Prop} :
    ∀ (n i : Nat) (s : St), l.length = i + n → VI h rb l i s → (∀ s', VI h rb l l.length s' → Q (.exit 0) s') → Code F G (.loop b21_6) s Q := by
  have h1i : (1 : Int) < (l.length : Int) := by omega
  intro n
  induction n with
  | zero =>
    intro i s hn I hq
    obtain rfl : i = l.length := by omega
    obtain ⟨e, h2⟩ := s
    obtain ⟨e3, e4, hk, lt, g⟩ := I
    simp only at e3 e4 hk lt g
    refine Code.loop (Code.seq (Code.seq (Code.ops ?_)))
    simp only [s21_3, ↓wP, wS, Nat.reduceEqDiff, reduceIte, Nat.reduceLeDiff, and_self, cond_true, cond_false, Nat.reduceAdd, Nat.reduceMul, e3, e4, Int.lt_irrefl, decide_false]
    refine Code.cond (t := false) (by simp only [↓wP, wS, Nat.reduceEqDiff, reduceIte, Nat.reduceLeDiff, and_self, cond_true, cond_false, Nat.reduceAdd, Nat.reduceMul]) (fun h => by cases h) (fun _ => Code.exit ?_)
    exact hq _ ⟨by simp only [↓wP, wS, Nat.reduceEqDiff, reduceIte, Nat.reduceLeDiff, and_self, cond_true, cond_false, Nat.reduceAdd, Nat.reduceMul, e3], by simp only [↓wP, wS, Nat.reduceEqDiff, reduceIte, Nat.reduceLeDiff, and_self, cond_true, cond_false, Nat.reduceAdd, Nat.reduceMul, e4], hk, lt, g⟩
  | succ n ih =>
    intro i s hn I hq
    have hil : i < l.length := by omega
    have hw := List.getElem?_eq_getElem hil
    obtain ⟨e, h2⟩ := s
    obtain ⟨e3, e4, hk, lt, g⟩ := I
    simp only at e3 e4 hk lt g
    have hlt : (i : Int) < (l.length : Int) := by omega
    have h0i : (0 : Int) ≤ (i : Int) := by omega
    have hw2 : w64 ((i : Int) + 1) = i + 1 := w64_id (by omega) (by omega)
    generalize l[i] = w at hw
    have hdw := decs_at l i w hw
    have hrd : rdT h2.t rb (i * 5 + 3) = some (i64 w.rows) := rdT_w g hdw 3 (by omega)
    refine Code.loop (Code.seq (Code.seq (Code.ops ?_)))
    simp only [s21_3, ↓wP, wS, Nat.reduceEqDiff, reduceIte, Nat.reduceLeDiff, and_self, cond_true, cond_false, Nat.reduceAdd, Nat.reduceMul, e3, e4, hlt, h1i, decide_true]
    refine Code.cond (t := true) (by simp only [↓wP, wS, Nat.reduceEqDiff, reduceIte, Nat.reduceLeDiff, and_self, cond_true, cond_false, Nat.reduceAdd, Nat.reduceMul]) (fun _ => Code.skip ?_) (fun h => by cases h)
    refine Code.seq (Code.block (Code.ops ?_))
    simp only [s21_4, ↓wP, wS, Nat.reduceEqDiff, reduceIte, Nat.reduceLeDiff, and_self, cond_true, cond_false, Nat.reduceAdd, Nat.reduceMul, e3, e4, hlt, h0i, and_self, if_true, Int.toNat_natCast, hrd]
    refine StoreQ.one rfl g (by rw [wcells_length, decs_length]; omega) (by rw [hk.fz]; exact hf.not_mem hrb) fun h3 n3 g3 k3 => ?_
    simp only [↓wP, wS, Nat.reduceEqDiff, reduceIte, Nat.reduceLeDiff, and_self, cond_true, cond_false, Nat.reduceAdd, Nat.reduceMul]
    refine Code.ops ?_
    simp only [s21_5, ↓wP, wS, Nat.reduceEqDiff, reduceIte, Nat.reduceLeDiff, and_self, cond_true, cond_false, Nat.reduceAdd, Nat.reduceMul, e4, hw2]
    refine ih (i + 1) _ (by omega) ⟨by simp only [↓wP, wS, Nat.reduceEqDiff, reduceIte, Nat.reduceLeDiff, and_self, cond_true, cond_false, Nat.reduceAdd, Nat.reduceMul, e3], by simp only [↓wP, wS, Nat.reduceEqDiff, reduceIte, Nat.reduceLeDiff, and_self, cond_true, cond_false, Nat.reduceAdd, Nat.reduceMul]; rfl, hk.andThen k3 (fun x hx hl => by omega), by simp only; omega, ?_⟩ hq
    simp only
    rw [g3, wcells_rows _ _ _ hdw, ← decs_succ l i w hw]
    rfl

theorem ref_wins (TT : Tab F G) {h : Hp} (hf : FzLt h) {Z : Nat → Prop} {bx : Nat} {S : LS} (a : RAt Z h bx S) (ok : LOk S) (ic : InR S.cols) {R : Value → Hp → Prop} (hr : ∀ r h', K0 h h' → WAt h' h.next r (winsOf (area S)) → R r h') : Call F G 21 [pt bx 0] h R := by
  have hlen2 : (area S).length ≤ 1000 := by rw [area_length]; exact ok.small
  have hpos := wins_pos ok
  refine Call.enter (TT.g _ _ (by decide)) TT.f21 (Nat.le_of_ble_eq_true rfl) ?_
  simp only [c21, envOf]
  refine Code.seq (Code.ops ?_)
  simp only [s21_0, ↓wP, wS, Nat.reduceEqDiff, reduceIte, Nat.reduceLeDiff, and_self, cond_true, cond_false, Nat.reduceAdd, Nat.reduceMul]
  refine Code.seq (Code.ops ?_)
  simp only [s21_1, ↓wP, wS, Nat.reduceEqDiff, reduceIte, Nat.reduceLeDiff, and_self, cond_true, cond_false, Nat.reduceAdd, Nat.reduceMul]
  refine ref_places TT hf a ok ic fun r h1 k1 hw => ?_
  obtain ⟨rb, rfl, w1, w2, w3⟩ := hw
  simp only [↓wP, wS, Nat.reduceEqDiff, reduceIte, Nat.reduceLeDiff, and_self, cond_true, cond_false, Nat.reduceAdd, Nat.reduceMul]
  refine Code.seq (Code.seq (Code.ops ?_))
  simp only [s21_2, ↓wP, wS, Nat.reduceEqDiff, reduceIte, Nat.reduceLeDiff, and_self, cond_true, cond_false, Nat.reduceAdd, Nat.reduceMul]
  have last : ∀ (s : St) (l : List Wn), s.e.get 3 = some (sl rb 0 (area S).length 0) → winsOf (area S) = l → K0 h s.h → rb < s.h.next → s.h.t.get rb = some (.cells (wcells l) 5 true) → Code F G (.seq (.ops s21_7) .ret) s fun fl s => (match fl with | .exit _ => False | _ => True) ∧ ∃ vs, resVs s.e s.h [.tmp 2] = some vs ∧ R (pack vs) s.h := by
    intro s l e3 hl hk hlt hg
    obtain ⟨e, h2⟩ := s
    refine Code.seq (Code.ops ?_)
    simp only at e3 hk hlt hg
    simp only [s21_7, ↓wP, wS, Nat.reduceEqDiff, reduceIte, Nat.reduceLeDiff, and_self, cond_true, cond_false, Nat.reduceAdd, Nat.reduceMul, e3]
    refine Code.ret ?_
    simp only [resVs, resV, pack, ↓wP, wS, Nat.reduceEqDiff, reduceIte, Nat.reduceLeDiff, and_self, cond_true, cond_false, Nat.reduceAdd, Nat.reduceMul]
    refine ⟨trivial, _, rfl, hr _ _ hk ⟨rb, ?_, w1, hlt, by rw [hl]; exact hg⟩⟩
    rw [show (winsOf (area S)).length = (area S).length by unfold winsOf; split <;> simp]
  by_cases h1l : 1 < (area S).length
  · refine Code.block (ref_wins_loop TT (h := h) hf hlen2 h1l w1 (area S).length 0 _ (by omega) ⟨by simp only [↓wP, wS, Nat.reduceEqDiff, reduceIte, Nat.reduceLeDiff, and_self, cond_true, cond_false, Nat.reduceAdd, Nat.reduceMul], by simp only [↓wP, wS, Nat.reduceEqDiff, reduceIte, Nat.reduceLeDiff, and_self, cond_true, cond_false, Nat.reduceAdd, Nat.reduceMul]; rfl, k1, w2, by rw [decs_zero]; exact w3⟩ fun s' I => ?_)
    simp only [if_true]
    obtain ⟨e3, e4, hk, lt, g⟩ := I
    rw [decs_all] at g
    exact last s' _ e3 (by simp only [winsOf, h1l, if_true]) hk lt g
  · have h1i : ¬ (1 : Int) < ((area S).length : Int) := by omega
    have h0i : (0 : Int) < ((area S).length : Int) := by omega
    refine Code.block (Code.loop (Code.seq (Code.seq (Code.ops ?_))))
    simp only [s21_3, ↓wP, wS, Nat.reduceEqDiff, reduceIte, Nat.reduceLeDiff, and_self, cond_true, cond_false, Nat.reduceAdd, Nat.reduceMul, h0i, h1i, decide_true, decide_false]
    refine Code.cond (t := false) (by simp only [↓wP, wS, Nat.reduceEqDiff, reduceIte, Nat.reduceLeDiff, and_self, cond_true, cond_false, Nat.reduceAdd, Nat.reduceMul]) (fun h => by cases h) (fun _ => Code.exit ?_)
    simp only [if_true]
    exact last _ _ (by simp only [↓wP, wS, Nat.reduceEqDiff, reduceIte, Nat.reduceLeDiff, and_self, cond_true, cond_false, Nat.reduceAdd, Nat.reduceMul]) (by simp only [winsOf, h1l, if_false]) k1 w2 w3

/-- The windows that are looked through. -/
structure OI (h : Hp) (rb : Nat) (l : List Wn) (t3 t4 : Nat) (i : Nat) (s : St) : Prop where
  e3 : s.e.get t3 = some (sl rb 0 l.length 0)
  e4 : s.e.get t4 = some (i64 i)
  heap : s.h = h

theorem idxFrom_none {p : Wn → Bool} : ∀ (l : List Wn) (i : Nat), idxFrom p l i = -1 ∨ (i : Int) ≤ idxFrom p l i
  | [], i => .inl rfl
  | w :: r, i => by
    rw [idxFrom]
    split
    · exact .inr (Int.le_refl _)
    · rcases idxFrom_none r (i + 1) with h | h
      · exact .inl h
      · exact .inr (by omega)

theorem ref_fits_loop (TT : Tab F G) {h : Hp} {rb : Nat} {l : List Wn} (hl : l.length ≤ 1000) (h1l : 1 < l.length) (hg : h.t.get rb = some (.cells (wcells l) 5 true)) {Q : Flow → St → Prop} :
    ∀ (n i : Nat) (s : St), l.length = i + n → OI h rb l 3 4 i s → (∀ s', s'.h = h → idxFrom narrow (l.drop i) i = -1 → Q (.exit 0) s') → (∀ s', s'.h = h → s'.e.get 2 = some (.bool false) → 0 ≤ idxFrom narrow (l.drop i) i → Q .ret s') → Code F G (.loop b46_7) s Q := by
  have h1i : (1 : Int) < (l.length : Int) := by omega
  intro n
  induction n with
  | zero =>
    intro i s hn I hq hq2
    obtain rfl : i = l.length := by omega
    obtain ⟨e, h2⟩ := s
    obtain ⟨e3, e4, rfl⟩ := I
    simp only at e3 e4
    refine Code.loop (Code.seq (Code.seq (Code.ops ?_)))
    simp only [s46_3, ↓wP, wS, Nat.reduceEqDiff, reduceIte, Nat.reduceLeDiff, and_self, cond_true, cond_false, Nat.reduceAdd, Nat.reduceMul, e3, e4, Int.lt_irrefl, decide_false]
    refine Code.cond (t := false) (by simp only [↓wP, wS, Nat.reduceEqDiff, reduceIte, Nat.reduceLeDiff, and_self, cond_true, cond_false, Nat.reduceAdd, Nat.reduceMul]) (fun h => by cases h) (fun _ => Code.exit ?_)
    exact hq _ rfl (by rw [List.drop_length]; rfl)
  | succ n ih =>
    intro i s hn I hq hq2
    have hil : i < l.length := by omega
    have hw := List.getElem?_eq_getElem hil
    have hd : l.drop i = l[i] :: l.drop (i + 1) := List.drop_eq_getElem_cons hil
    obtain ⟨e, h2⟩ := s
    obtain ⟨e3, e4, rfl⟩ := I
    simp only at e3 e4 hg
    have hlt : (i : Int) < (l.length : Int) := by omega
    have h0i : (0 : Int) ≤ (i : Int) := by omega
    have hw2 : w64 ((i : Int) + 1) = i + 1 := w64_id (by omega) (by omega)
    rw [hd] at hq hq2
    generalize l[i] = w at hw hq hq2
    have hr3 : rdT h2.t rb (i * 5 + 3) = some (i64 w.rows) := rdT_w hg hw 3 (by omega)
    have hr4 : rdT h2.t rb (i * 5 + 4) = some (i64 w.cols) := rdT_w hg hw 4 (by omega)
    refine Code.loop (Code.seq (Code.seq (Code.ops ?_)))
    simp only [s46_3, ↓wP, wS, Nat.reduceEqDiff, reduceIte, Nat.reduceLeDiff, and_self, cond_true, cond_false, Nat.reduceAdd, Nat.reduceMul, e3, e4, hlt, h1i, decide_true]
    refine Code.cond (t := true) (by simp only [↓wP, wS, Nat.reduceEqDiff, reduceIte, Nat.reduceLeDiff, and_self, cond_true, cond_false, Nat.reduceAdd, Nat.reduceMul]) (fun _ => Code.skip ?_) (fun h => by cases h)
    refine Code.seq (Code.block (Code.seq (Code.ops ?_)))
    have hnar : narrow w = (decide (w.rows < 2) || decide (w.cols < 2)) := rfl
    have bad : narrow w = true → ∀ (e' : Env), Code F G (.seq (.ops s46_5) .ret) ⟨e', h2⟩ (fun fl s => fl = .ret ∧ Q .ret s) := by
      intro hb e'
      refine Code.seq (Code.ops ?_)
      simp only [s46_5, ↓wP, wS, Nat.reduceEqDiff, reduceIte, Nat.reduceLeDiff, and_self, cond_true, cond_false, Nat.reduceAdd, Nat.reduceMul]
      refine Code.ret ⟨rfl, hq2 _ rfl (by simp only [↓wP, wS, Nat.reduceEqDiff, reduceIte, Nat.reduceLeDiff, and_self, cond_true, cond_false, Nat.reduceAdd, Nat.reduceMul]) ?_⟩
      rw [idxFrom, if_pos hb]
      omega
    have good : narrow w = false → ∀ (e' : Env), e'.get 3 = some (sl rb 0 l.length 0) → e'.get 4 = some (i64 i) → Code F G (.ops s46_6) ⟨e', h2⟩ (fun fl s => match fl with | .next => Code F G (.loop b46_7) s Q | fl => Q fl s) := by
      intro hb e' q3 q4
      refine Code.ops ?_
      simp only [s46_6, ↓wP, wS, Nat.reduceEqDiff, reduceIte, Nat.reduceLeDiff, and_self, cond_true, cond_false, Nat.reduceAdd, Nat.reduceMul, q4, hw2]
      have hx : idxFrom narrow (w :: l.drop (i + 1)) i = idxFrom narrow (l.drop (i + 1)) (i + 1) := by rw [idxFrom, if_neg (by rw [hb]; simp)]
      rw [hx] at hq hq2
      exact ih (i + 1) _ (by omega) ⟨by simp only [↓wP, wS, Nat.reduceEqDiff, reduceIte, Nat.reduceLeDiff, and_self, cond_true, cond_false, Nat.reduceAdd, Nat.reduceMul, q3], by simp only [↓wP, wS, Nat.reduceEqDiff, reduceIte, Nat.reduceLeDiff, and_self, cond_true, cond_false, Nat.reduceAdd, Nat.reduceMul]; rfl, rfl⟩ hq hq2
    by_cases hrows : w.rows < 2
    · simp only [s46_4, ↓wP, wS, Nat.reduceEqDiff, reduceIte, Nat.reduceLeDiff, and_self, cond_true, cond_false, Nat.reduceAdd, Nat.reduceMul, e3, e4, hlt, h0i, and_self, if_true, Int.toNat_natCast, hr3, hrows, decide_true]
      refine Code.cond (t := true) (by simp only [↓wP, wS, Nat.reduceEqDiff, reduceIte, Nat.reduceLeDiff, and_self, cond_true, cond_false, Nat.reduceAdd, Nat.reduceMul]) (fun _ => (bad (by simp [hnar, hrows]) _).mono fun fl s hx => ?_) (fun h => by cases h)
      obtain ⟨rfl, hx⟩ := hx
      exact hx
    · by_cases hcols : w.cols < 2
      · simp only [s46_4, ↓wP, wS, Nat.reduceEqDiff, reduceIte, Nat.reduceLeDiff, and_self, cond_true, cond_false, Nat.reduceAdd, Nat.reduceMul, e3, e4, hlt, h0i, and_self, if_true, Int.toNat_natCast, hr3, hr4, hrows, hcols, decide_true, decide_false]
        refine Code.cond (t := true) (by simp only [↓wP, wS, Nat.reduceEqDiff, reduceIte, Nat.reduceLeDiff, and_self, cond_true, cond_false, Nat.reduceAdd, Nat.reduceMul]) (fun _ => (bad (by simp [hnar, hcols]) _).mono fun fl s hx => ?_) (fun h => by cases h)
        obtain ⟨rfl, hx⟩ := hx
        exact hx
      · simp only [s46_4, ↓wP, wS, Nat.reduceEqDiff, reduceIte, Nat.reduceLeDiff, and_self, cond_true, cond_false, Nat.reduceAdd, Nat.reduceMul, e3, e4, hlt, h0i, and_self, if_true, Int.toNat_natCast, hr3, hr4, hrows, hcols, decide_true, decide_false]
        refine Code.cond (t := false) (by simp only [↓wP, wS, Nat.reduceEqDiff, reduceIte, Nat.reduceLeDiff, and_self, cond_true, cond_false, Nat.reduceAdd, Nat.reduceMul]) (fun h => by cases h) (fun _ => Code.skip ?_)
        exact good (by simp [hnar, hrows, hcols]) _ (by simp only [↓wP, wS, Nat.reduceEqDiff, reduceIte, Nat.reduceLeDiff, and_self, cond_true, cond_false, Nat.reduceAdd, Nat.reduceMul, e3]) (by simp only [↓wP, wS, Nat.reduceEqDiff, reduceIte, Nat.reduceLeDiff, and_self, cond_true, cond_false, Nat.reduceAdd, Nat.reduceMul, e4])

theorem ref_fits (TT : Tab F G) {h : Hp} (hf : FzLt h) {Z : Nat → Prop} {bx : Nat} {S : LS} (a : RAt Z h bx S) (ok : LOk S) (ic : InR S.cols) {R : Value → Hp → Prop} (hr : ∀ h', K0 h h' → R (.bool (fitsL (area S))) h') : Call F G 46 [pt bx 0] h R := by
  have hlen2 : (area S).length ≤ 1000 := by rw [area_length]; exact ok.small
  have hpos := wins_pos ok
  refine Call.enter (TT.g _ _ (by decide)) TT.f46 (Nat.le_of_ble_eq_true rfl) ?_
  simp only [c46, envOf]
  refine Code.seq (Code.ops ?_)
  simp only [s46_0, ↓wP, wS, Nat.reduceEqDiff, reduceIte, Nat.reduceLeDiff, and_self, cond_true, cond_false, Nat.reduceAdd, Nat.reduceMul]
  refine Code.seq (Code.ops ?_)
  simp only [s46_1, ↓wP, wS, Nat.reduceEqDiff, reduceIte, Nat.reduceLeDiff, and_self, cond_true, cond_false, Nat.reduceAdd, Nat.reduceMul]
  refine ref_places TT hf a ok ic fun r h1 k1 hw => ?_
  obtain ⟨rb, rfl, w1, w2, w3⟩ := hw
  simp only [↓wP, wS, Nat.reduceEqDiff, reduceIte, Nat.reduceLeDiff, and_self, cond_true, cond_false, Nat.reduceAdd, Nat.reduceMul]
  refine Code.seq (Code.seq (Code.ops ?_))
  simp only [s46_2, ↓wP, wS, Nat.reduceEqDiff, reduceIte, Nat.reduceLeDiff, and_self, cond_true, cond_false, Nat.reduceAdd, Nat.reduceMul]
  have yes : fitsL (area S) = true → ∀ e, Code F G (.seq (.ops s46_8) .ret) ⟨e, h1⟩ fun fl s => (match fl with | .exit _ => False | _ => True) ∧ ∃ vs, resVs s.e s.h [.tmp 2] = some vs ∧ R (pack vs) s.h := by
    intro hy e
    refine Code.seq (Code.ops ?_)
    simp only [s46_8, ↓wP, wS, Nat.reduceEqDiff, reduceIte, Nat.reduceLeDiff, and_self, cond_true, cond_false, Nat.reduceAdd, Nat.reduceMul]
    refine Code.ret ?_
    simp only [resVs, resV, pack, ↓wP, wS, Nat.reduceEqDiff, reduceIte, Nat.reduceLeDiff, and_self, cond_true, cond_false, Nat.reduceAdd, Nat.reduceMul]
    rw [hy] at hr
    exact ⟨trivial, _, rfl, hr _ k1⟩
  by_cases h1l : 1 < (area S).length
  · have hne : ((area S).length : Int) ≠ 1 := by omega
    refine Code.block (ref_fits_loop TT (h := h1) hlen2 h1l w3 (area S).length 0 _ (by omega) ⟨by simp only [↓wP, wS, Nat.reduceEqDiff, reduceIte, Nat.reduceLeDiff, and_self, cond_true, cond_false, Nat.reduceAdd, Nat.reduceMul], by simp only [↓wP, wS, Nat.reduceEqDiff, reduceIte, Nat.reduceLeDiff, and_self, cond_true, cond_false, Nat.reduceAdd, Nat.reduceMul]; rfl, rfl⟩ (fun s' hs hi => ?_) (fun s' hs h2 hi => ?_))
    · simp only [if_true]
      obtain ⟨e, h2⟩ := s'
      simp only at hs
      subst hs
      rw [List.drop_zero] at hi
      exact yes (by simp [fitsL, hi, hne]) e
    · obtain ⟨e, h2'⟩ := s'
      simp only at hs h2
      subst hs
      rw [List.drop_zero] at hi
      have hno : fitsL (area S) = false := by simp [fitsL, hi, hne]
      rw [hno] at hr
      exact ⟨trivial, [.bool false], by simp only [resVs, resV, h2], hr _ k1⟩
  · have h1i : ¬ (1 : Int) < ((area S).length : Int) := by omega
    have h0i : (0 : Int) < ((area S).length : Int) := by omega
    have h1e : ((area S).length : Int) = 1 := by omega
    refine Code.block (Code.loop (Code.seq (Code.seq (Code.ops ?_))))
    simp only [s46_3, ↓wP, wS, Nat.reduceEqDiff, reduceIte, Nat.reduceLeDiff, and_self, cond_true, cond_false, Nat.reduceAdd, Nat.reduceMul, h0i, h1i, decide_true, decide_false]
    refine Code.cond (t := false) (by simp only [↓wP, wS, Nat.reduceEqDiff, reduceIte, Nat.reduceLeDiff, and_self, cond_true, cond_false, Nat.reduceAdd, Nat.reduceMul]) (fun h => by cases h) (fun _ => Code.exit ?_)
    simp only [if_true]
    exact yes (by simp [fitsL, h1e]) _

theorem ref_order_loop (TT : Tab F G) {h : Hp} {rb : Nat} {id : Int} {l : List Wn} (hl : l.length ≤ 1000) (hg : h.t.get rb = some (.cells (wcells l) 5 true)) {Q : Flow → St → Prop} :
    ∀ (n i : Nat) (s : St), l.length = i + n → OI h rb l 5 6 i s → s.e.get 1 = some (i64 id) → (∀ s', s'.h = h → idxFrom (fun w => decide (w.id = id)) (l.drop i) i = -1 → Q (.exit 0) s') → (∀ s', s'.h = h → s'.e.get 4 = some (i64 (idxFrom (fun w => decide (w.id = id)) (l.drop i) i)) → Q .ret s') → Code F G (.loop b47_7) s Q := by
  intro n
  induction n with
  | zero =>
    intro i s hn I e1 hq hq2
    obtain rfl : i = l.length := by omega
    obtain ⟨e, h2⟩ := s
    obtain ⟨e3, e4, rfl⟩ := I
    simp only at e3 e4
    refine Code.loop (Code.seq (Code.seq (Code.ops ?_)))
    simp only [s47_3, ↓wP, wS, Nat.reduceEqDiff, reduceIte, Nat.reduceLeDiff, and_self, cond_true, cond_false, Nat.reduceAdd, Nat.reduceMul, e3, e4, Int.lt_irrefl, decide_false]
    refine Code.cond (t := false) (by simp only [↓wP, wS, Nat.reduceEqDiff, reduceIte, Nat.reduceLeDiff, and_self, cond_true, cond_false, Nat.reduceAdd, Nat.reduceMul]) (fun h => by cases h) (fun _ => Code.exit ?_)
    exact hq _ rfl (by rw [List.drop_length]; rfl)
  | succ n ih =>
    intro i s hn I e1 hq hq2
    have hil : i < l.length := by omega
    have hw := List.getElem?_eq_getElem hil
    have hd : l.drop i = l[i] :: l.drop (i + 1) := List.drop_eq_getElem_cons hil
    obtain ⟨e, h2⟩ := s
    obtain ⟨e3, e4, rfl⟩ := I
    simp only at e3 e4 hg e1
    have hlt : (i : Int) < (l.length : Int) := by omega
    have h0i : (0 : Int) ≤ (i : Int) := by omega
    have hw2 : w64 ((i : Int) + 1) = i + 1 := w64_id (by omega) (by omega)
    rw [hd] at hq hq2
    generalize l[i] = w at hw hq hq2
    have hr0 : rdT h2.t rb (i * 5 + 0) = some (i64 w.id) := rdT_w hg hw 0 (by omega)
    rw [Nat.add_zero] at hr0
    refine Code.loop (Code.seq (Code.seq (Code.ops ?_)))
    simp only [s47_3, ↓wP, wS, Nat.reduceEqDiff, reduceIte, Nat.reduceLeDiff, and_self, cond_true, cond_false, Nat.reduceAdd, Nat.reduceMul, e3, e4, hlt, decide_true]
    refine Code.cond (t := true) (by simp only [↓wP, wS, Nat.reduceEqDiff, reduceIte, Nat.reduceLeDiff, and_self, cond_true, cond_false, Nat.reduceAdd, Nat.reduceMul]) (fun _ => Code.skip ?_) (fun h => by cases h)
    refine Code.seq (Code.block (Code.seq (Code.ops ?_)))
    simp only [s47_4, ↓wP, wS, Nat.reduceEqDiff, reduceIte, Nat.reduceLeDiff, and_self, cond_true, cond_false, Nat.reduceAdd, Nat.reduceMul, e1, e3, e4, hlt, h0i, and_self, if_true, Int.toNat_natCast, Nat.add_zero, hr0]
    by_cases hid : w.id = id
    · refine Code.cond (t := true) (by simp only [↓wP, wS, Nat.reduceEqDiff, reduceIte, Nat.reduceLeDiff, and_self, cond_true, cond_false, Nat.reduceAdd, Nat.reduceMul, hid, decide_true]) (fun _ => Code.seq (Code.ops ?_)) (fun h => by cases h)
      simp only [s47_5, ↓wP, wS, Nat.reduceEqDiff, reduceIte, Nat.reduceLeDiff, and_self, cond_true, cond_false, Nat.reduceAdd, Nat.reduceMul, e4]
      refine Code.ret (hq2 _ rfl ?_)
      simp only [↓wP, wS, Nat.reduceEqDiff, reduceIte, Nat.reduceLeDiff, and_self, cond_true, cond_false, Nat.reduceAdd, Nat.reduceMul]
      rw [idxFrom, if_pos (by simp [hid])]
    · refine Code.cond (t := false) (by simp only [↓wP, wS, Nat.reduceEqDiff, reduceIte, Nat.reduceLeDiff, and_self, cond_true, cond_false, Nat.reduceAdd, Nat.reduceMul, hid, decide_false]) (fun h => by cases h) (fun _ => Code.skip ?_)
      refine Code.ops ?_
      simp only [s47_6, ↓wP, wS, Nat.reduceEqDiff, reduceIte, Nat.reduceLeDiff, and_self, cond_true, cond_false, Nat.reduceAdd, Nat.reduceMul, e4, hw2]
      have hx : idxFrom (fun w => decide (w.id = id)) (w :: l.drop (i + 1)) i = idxFrom (fun w => decide (w.id = id)) (l.drop (i + 1)) (i + 1) := by rw [idxFrom, if_neg (by simp [hid])]
      rw [hx] at hq hq2
      exact ih (i + 1) _ (by omega) ⟨by simp only [↓wP, wS, Nat.reduceEqDiff, reduceIte, Nat.reduceLeDiff, and_self, cond_true, cond_false, Nat.reduceAdd, Nat.reduceMul, e3], by simp only [↓wP, wS, Nat.reduceEqDiff, reduceIte, Nat.reduceLeDiff, and_self, cond_true, cond_false, Nat.reduceAdd, Nat.reduceMul]; rfl, rfl⟩ (by simp only [↓wP, wS, Nat.reduceEqDiff, reduceIte, Nat.reduceLeDiff, and_self, cond_true, cond_false, Nat.reduceAdd, Nat.reduceMul, e1]) hq hq2

theorem ref_order (TT : Tab F G) {h : Hp} (hf : FzLt h) {Z : Nat → Prop} {bx : Nat} {S : LS} (a : RAt Z h bx S) (ok : LOk S) (ic : InR S.cols) {id : Int} {R : Value → Hp → Prop} (hr : ∀ h', K0 h h' → R (i64 (idxId (area S) id)) h') : Call F G 47 [pt bx 0, i64 id] h R := by
  have hlen2 : (area S).length ≤ 1000 := by rw [area_length]; exact ok.small
  refine Call.enter (TT.g _ _ (by decide)) TT.f47 (Nat.le_of_ble_eq_true rfl) ?_
  simp only [c47, envOf]
  refine Code.seq (Code.ops ?_)
  simp only [s47_0, ↓wP, wS, Nat.reduceEqDiff, reduceIte, Nat.reduceLeDiff, and_self, cond_true, cond_false, Nat.reduceAdd, Nat.reduceMul]
  refine Code.seq (Code.ops ?_)
  simp only [s47_1, ↓wP, wS, Nat.reduceEqDiff, reduceIte, Nat.reduceLeDiff, and_self, cond_true, cond_false, Nat.reduceAdd, Nat.reduceMul]
  refine ref_places TT hf a ok ic fun r h1 k1 hw => ?_
  obtain ⟨rb, rfl, w1, w2, w3⟩ := hw
  simp only [↓wP, wS, Nat.reduceEqDiff, reduceIte, Nat.reduceLeDiff, and_self, cond_true, cond_false, Nat.reduceAdd, Nat.reduceMul]
  refine Code.seq (Code.seq (Code.ops ?_))
  simp only [s47_2, ↓wP, wS, Nat.reduceEqDiff, reduceIte, Nat.reduceLeDiff, and_self, cond_true, cond_false, Nat.reduceAdd, Nat.reduceMul]
  refine Code.block (ref_order_loop TT (h := h1) (id := id) hlen2 w3 (area S).length 0 _ (by omega) ⟨by simp only [↓wP, wS, Nat.reduceEqDiff, reduceIte, Nat.reduceLeDiff, and_self, cond_true, cond_false, Nat.reduceAdd, Nat.reduceMul], by simp only [↓wP, wS, Nat.reduceEqDiff, reduceIte, Nat.reduceLeDiff, and_self, cond_true, cond_false, Nat.reduceAdd, Nat.reduceMul]; rfl, rfl⟩ (by simp only [↓wP, wS, Nat.reduceEqDiff, reduceIte, Nat.reduceLeDiff, and_self, cond_true, cond_false, Nat.reduceAdd, Nat.reduceMul]) (fun s' hs hi => ?_) (fun s' hs h2 => ?_))
  · simp only [if_true]
    obtain ⟨e, h2⟩ := s'
    simp only at hs
    subst hs
    refine Code.seq (Code.ops ?_)
    simp only [s47_8, ↓wP, wS, Nat.reduceEqDiff, reduceIte, Nat.reduceLeDiff, and_self, cond_true, cond_false, Nat.reduceAdd, Nat.reduceMul]
    refine Code.ret ?_
    simp only [resVs, resV, pack, ↓wP, wS, Nat.reduceEqDiff, reduceIte, Nat.reduceLeDiff, and_self, cond_true, cond_false, Nat.reduceAdd, Nat.reduceMul]
    rw [List.drop_zero] at hi
    have := hr _ k1
    rw [idxId, hi] at this
    exact ⟨trivial, _, rfl, this⟩
  · obtain ⟨e, h2'⟩ := s'
    simp only at hs h2
    subst hs
    rw [List.drop_zero] at h2
    exact ⟨trivial, [i64 (idxId (area S) id)], by simp only [resVs, resV, h2]; rfl, hr _ k1⟩
end
end Go.Eng
