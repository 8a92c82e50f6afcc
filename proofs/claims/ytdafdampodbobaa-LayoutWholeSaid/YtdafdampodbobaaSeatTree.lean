/- The tree of windows that the program holds: what its methods come to. -/
import Derived.Test.YtdafdampodbobaaSeatFn
namespace Go.Eng
set_option linter.unusedSimpArgs false
set_option linter.unusedVariables false

structure LS where
  tree : Tr
  last : Int
  here : Int
  rows : Int
  cols : Int

/-- The program's tree in memory, its windows and groups in blocks of Z. -/
structure LAt (Z : Nat → Prop) (h : Hp) (bt : Nat) (S : LS) : Prop where
  lt : bt < h.next
  nz : ¬ Z bt
  root : ∃ rv, h.t.get bt = some (.cells [rv, i64 S.last, i64 S.here, i64 S.rows, i64 S.cols] 0 true) ∧ TAt Z h rv S.tree

/-- It has windows, and not many. -/
structure LOk (S : LS) : Prop where
  good : Good S.tree
  small : (ids S.tree).length ≤ 1000

def area (S : LS) : List Wn := plc S.tree 0 0 (w64 (S.rows - 1)) S.cols
def narrow (w : Wn) : Bool := decide (w.rows < 2) || decide (w.cols < 2)
def fitsL (l : List Wn) : Bool := decide ((l.length : Int) = 1) || !decide (0 ≤ idxFrom narrow l 0)
def idxId (l : List Wn) (id : Int) : Int := idxFrom (fun w => decide (w.id = id)) l 0

theorem TAt.nilV {Z : Nat → Prop} {h : Hp} {v : Value} {t : Tr} (ht : TAt Z h v t) : Eng.nilV (some v) = some v := by cases ht <;> rfl

theorem LAt.mono {Z : Nat → Prop} {h h' : Hp} (o : Old h h') {bt : Nat} {S : LS} (a : LAt Z h bt S) : LAt Z h' bt S := by
  obtain ⟨lt, nz, rv, h1, h2⟩ := a
  exact ⟨Nat.lt_of_lt_of_le lt o.next, nz, rv, (o.get bt lt).trans h1, h2.mono o⟩

/-- What other calls turn. -/
theorem LAt.other {X Z : Nat → Prop} {h h' : Hp} (k : Kp X h h') {bt : Nat} {S : LS} (a : LAt Z h bt S) (hb : ¬ X bt) (hX : ∀ b, X b → ¬ Z b) : LAt Z h' bt S := by
  obtain ⟨lt, nz, rv, h1, h2⟩ := a
  exact ⟨Nat.lt_of_lt_of_le lt k.next, nz, rv, k.keep lt hb h1, h2.keep k hX⟩

theorem K0.base {h h' : Hp} {f : List Nat} (k : K0 ⟨h.t, h.next, f⟩ h') : K0 h ⟨h'.t, h'.next, h.fz⟩ := ⟨k.next, fun b hb _ => k.get b hb (fun x => x), rfl⟩

section
variable {F : FuncId → Option SFunc} {G : FuncId → List Value → Option Value}

theorem places_call (TT : Tab F G) {h : Hp} (hf : FzLt h) {Z : Nat → Prop} {bt : Nat} {S : LS} (a : LAt Z h bt S) (ok : LOk S) {R : Value → Hp → Prop} (hr : ∀ r h', K0 h h' → WAt h' h.next r (area S) → R r h') : Call F G 25 [pt bt 0] h R := by
  obtain ⟨lt, nz, rv, hg, hroot⟩ := a
  refine Call.enter (TT.g _ _ (by decide)) TT.f25 (Nat.le_of_ble_eq_true rfl) ?_
  simp only [c25, envOf]
  refine Code.seq (Code.ops ?_)
  simp only [s25_0, ↓wP, wS, Nat.reduceEqDiff, reduceIte, Nat.reduceLeDiff, and_self, cond_true, cond_false, Nat.reduceAdd, Nat.reduceMul]
  refine Code.seq (Code.draw ?_)
  simp only [s25_1, ↓wP, wS, Nat.reduceEqDiff, reduceIte, Nat.reduceLeDiff, and_self, cond_true, cond_false, Nat.reduceAdd, Nat.reduceMul, ↓Draw.cons, dS, decide_true, decide_false, rdT_of hg, fzStep_load, hroot.nilV]
  refine lays_all TT hroot ok.good ok.small _ _ _ _ _ _ _ ⟨Nat.le_refl _, fun _ _ => rfl⟩ (fun b hb => ?_) fun r h1 k1 hw => ?_
  · simp only [List.mem_cons] at hb
    rcases hb with rfl | rfl | rfl | hb
    · exact lt
    · exact lt
    · exact lt
    · exact hf b hb
  · simp only [↓wP, wS, Nat.reduceEqDiff, reduceIte, Nat.reduceLeDiff, and_self, cond_true, cond_false, Nat.reduceAdd, Nat.reduceMul, ↓Draw.cons, dS, decide_true, decide_false]
    refine Code.ret ?_
    simp only [resVs, resV, pack, ↓wP, wS, Nat.reduceEqDiff, reduceIte, Nat.reduceLeDiff, and_self, cond_true, cond_false, Nat.reduceAdd, Nat.reduceMul]
    exact ⟨trivial, _, rfl, hr _ _ k1.base hw⟩

theorem area_length (S : LS) : (area S).length = (ids S.tree).length := plc_length _ _ _ _ _

theorem index_call (TT : Tab F G) {h : Hp} (hf : FzLt h) {Z : Nat → Prop} {bt : Nat} {S : LS} (a : LAt Z h bt S) (ok : LOk S) {id : Int} {R : Value → Hp → Prop} (hr : ∀ h', K0 h h' → R (i64 (idxId (area S) id)) h') : Call F G 28 [pt bt 0, i64 id] h R := by
  refine Call.enter (TT.g _ _ (by decide)) TT.f28 (Nat.le_of_ble_eq_true rfl) ?_
  simp only [c28, envOf]
  refine Code.seq (Code.ops ?_)
  simp only [s28_0, ↓wP, wS, Nat.reduceEqDiff, reduceIte, Nat.reduceLeDiff, and_self, cond_true, cond_false, Nat.reduceAdd, Nat.reduceMul]
  refine NewQ.intro fun p1 h1 e1 n1 g1 k1 => ?_
  simp only [↓wP, wS, Nat.reduceEqDiff, reduceIte, Nat.reduceLeDiff, and_self, cond_true, cond_false, Nat.reduceAdd, Nat.reduceMul]
  refine Code.seq (Code.ops ?_)
  simp only [s28_1, ↓wP, wS, Nat.reduceEqDiff, reduceIte, Nat.reduceLeDiff, and_self, cond_true, cond_false, Nat.reduceAdd, Nat.reduceMul]
  refine places_call TT (k1.fzLt hf) (a.mono k1.old) ok fun r h2 k2 hw => ?_
  obtain ⟨rb, rfl, w1, w2, w3⟩ := hw
  simp only [↓wP, wS, Nat.reduceEqDiff, reduceIte, Nat.reduceLeDiff, and_self, cond_true, cond_false, Nat.reduceAdd, Nat.reduceMul]
  have g2 := k2.keep (by omega) (fun x => x) g1
  refine index_func TT (k2.fzLt (k1.fzLt hf)) w2 w3 (by rw [area_length]; have := ok.small; omega) (pred_index TT (by have := k2.next; omega) g2) fun h3 k3 => ?_
  simp only [↓wP, wS, Nat.reduceEqDiff, reduceIte, Nat.reduceLeDiff, and_self, cond_true, cond_false, Nat.reduceAdd, Nat.reduceMul]
  refine Code.ret ?_
  simp only [resVs, resV, pack, ↓wP, wS, Nat.reduceEqDiff, reduceIte, Nat.reduceLeDiff, and_self, cond_true, cond_false, Nat.reduceAdd, Nat.reduceMul]
  exact ⟨trivial, _, rfl, hr _ ((k1.trans k2).trans k3)⟩

theorem fits_call (TT : Tab F G) {h : Hp} (hf : FzLt h) {Z : Nat → Prop} {bt : Nat} {S : LS} (a : LAt Z h bt S) (ok : LOk S) {R : Value → Hp → Prop} (hr : ∀ h', K0 h h' → R (.bool (fitsL (area S))) h') : Call F G 27 [pt bt 0] h R := by
  refine Call.enter (TT.g _ _ (by decide)) TT.f27 (Nat.le_of_ble_eq_true rfl) ?_
  simp only [c27, envOf]
  refine Code.seq (Code.ops ?_)
  simp only [s27_0, ↓wP, wS, Nat.reduceEqDiff, reduceIte, Nat.reduceLeDiff, and_self, cond_true, cond_false, Nat.reduceAdd, Nat.reduceMul]
  refine Code.seq (Code.ops ?_)
  simp only [s27_1, ↓wP, wS, Nat.reduceEqDiff, reduceIte, Nat.reduceLeDiff, and_self, cond_true, cond_false, Nat.reduceAdd, Nat.reduceMul]
  refine places_call TT hf a ok fun r h2 k2 hw => ?_
  obtain ⟨rb, rfl, w1, w2, w3⟩ := hw
  simp only [↓wP, wS, Nat.reduceEqDiff, reduceIte, Nat.reduceLeDiff, and_self, cond_true, cond_false, Nat.reduceAdd, Nat.reduceMul]
  refine Code.seq (Code.ops ?_)
  by_cases h1 : ((area S).length : Int) = 1
  · simp only [s27_2, ↓wP, wS, Nat.reduceEqDiff, reduceIte, Nat.reduceLeDiff, and_self, cond_true, cond_false, Nat.reduceAdd, Nat.reduceMul, h1, decide_true]
    refine Code.ret ?_
    simp only [resVs, resV, pack, ↓wP, wS, Nat.reduceEqDiff, reduceIte, Nat.reduceLeDiff, and_self, cond_true, cond_false, Nat.reduceAdd, Nat.reduceMul]
    have := hr _ k2
    simp only [fitsL, h1, decide_true, Bool.true_or] at this
    exact ⟨trivial, _, rfl, this⟩
  · simp only [s27_2, ↓wP, wS, Nat.reduceEqDiff, reduceIte, Nat.reduceLeDiff, and_self, cond_true, cond_false, Nat.reduceAdd, Nat.reduceMul, h1, decide_false]
    refine contains_func TT (k2.fzLt hf) w2 w3 (by rw [area_length]; have := ok.small; omega) (pred_fits TT) fun h3 k3 => ?_
    simp only [↓wP, wS, Nat.reduceEqDiff, reduceIte, Nat.reduceLeDiff, and_self, cond_true, cond_false, Nat.reduceAdd, Nat.reduceMul, h1, decide_false]
    refine Code.ret ?_
    simp only [resVs, resV, pack, ↓wP, wS, Nat.reduceEqDiff, reduceIte, Nat.reduceLeDiff, and_self, cond_true, cond_false, Nat.reduceAdd, Nat.reduceMul]
    have := hr _ (k2.trans k3)
    simp only [fitsL, h1, decide_false, Bool.false_or] at this
    exact ⟨trivial, _, rfl, this⟩

def clampR (n : Int) : Int := if 500 < (if 2 > n then 2 else n) then 500 else (if 2 > n then 2 else n)
def clampC (n : Int) : Int := if 1000 < (if 2 > n then 2 else n) then 1000 else (if 2 > n then 2 else n)

theorem resize_call (TT : Tab F G) {h : Hp} {Z : Nat → Prop} {bt : Nat} {S : LS} (a : LAt Z h bt S) (hn : bt ∉ h.fz) {r c : Int} {R : Value → Hp → Prop}
    (hr : ∀ v h', h'.next = h.next → Kp (· = bt) h h' → LAt Z h' bt { S with rows := clampR r, cols := clampC c } → R v h') : Call F G 29 [pt bt 0, i64 r, i64 c] h R := by
  obtain ⟨lt, nz, rv, hg, hroot⟩ := a
  refine Call.enter (TT.g _ _ (by decide)) TT.f29 (Nat.le_of_ble_eq_true rfl) ?_
  simp only [c29, envOf]
  refine Code.seq (Code.ops ?_)
  simp only [s29_0, ↓wP, wS, Nat.reduceEqDiff, reduceIte, Nat.reduceLeDiff, and_self, cond_true, cond_false, Nat.reduceAdd, Nat.reduceMul]
  refine StoreQ.one rfl hg (by simp) hn fun h1 n1 g1 k1 => ?_
  simp only [↓wP, wS, Nat.reduceEqDiff, reduceIte, Nat.reduceLeDiff, and_self, cond_true, cond_false, Nat.reduceAdd, Nat.reduceMul] at g1 ⊢
  refine Code.ops ?_
  simp only [s29_1, ↓wP, wS, Nat.reduceEqDiff, reduceIte, Nat.reduceLeDiff, and_self, cond_true, cond_false, Nat.reduceAdd, Nat.reduceMul]
  refine StoreQ.one rfl g1 (by simp) (k1.fz ▸ hn) fun h2 n2 g2 k2 => ?_
  simp only [↓wP, wS, Nat.reduceEqDiff, reduceIte, Nat.reduceLeDiff, and_self, cond_true, cond_false, Nat.reduceAdd, Nat.reduceMul] at g2 ⊢
  simp only [resVs, pack]
  refine ⟨trivial, _, rfl, hr _ _ (n2.trans n1) (k1.trans k2) ⟨by rw [n2, n1]; exact lt, nz, rv, g2, ?_⟩⟩
  exact hroot.keep (k1.trans k2) (fun b hb => by rw [hb]; exact nz)

theorem new_call (TT : Tab F G) {h : Hp} (hf : FzLt h) {r c : Int} {R : Value → Hp → Prop} (hr : ∀ bt h', h.next ≤ bt → K0 h h' → LAt (fun b => h.next ≤ b ∧ b ≠ bt) h' bt ⟨.win 1, 1, 1, clampR r, clampC c⟩ → R (pt bt 0) h') : Call F G 17 [i64 r, i64 c] h R := by
  refine Call.enter (TT.g _ _ (by decide)) TT.f17 (Nat.le_of_ble_eq_true rfl) ?_
  simp only [c17, envOf]
  refine Code.seq (Code.ops ?_)
  simp only [s17_0, ↓wP, wS, Nat.reduceEqDiff, reduceIte, Nat.reduceLeDiff, and_self, cond_true, cond_false, Nat.reduceAdd, Nat.reduceMul]
  refine Code.seq (Code.ops ?_)
  simp only [s17_1, ↓wP, wS, Nat.reduceEqDiff, reduceIte, Nat.reduceLeDiff, and_self, cond_true, cond_false, Nat.reduceAdd, Nat.reduceMul]
  refine NewQ.intro fun p1 h1 e1 n1 g1 k1 => ?_
  simp only [↓wP, wS, Nat.reduceEqDiff, reduceIte, Nat.reduceLeDiff, and_self, cond_true, cond_false, Nat.reduceAdd, Nat.reduceMul]
  refine NewQ.intro fun bt h2 e2 n2 g2 k2 => ?_
  simp only [↓wP, wS, Nat.reduceEqDiff, reduceIte, Nat.reduceLeDiff, and_self, cond_true, cond_false, Nat.reduceAdd, Nat.reduceMul]
  refine Code.seq (Code.ops ?_)
  simp only [s17_2, ↓wP, wS, Nat.reduceEqDiff, reduceIte, Nat.reduceLeDiff, and_self, cond_true, cond_false, Nat.reduceAdd, Nat.reduceMul]
  have hL : LAt (fun b => h.next ≤ b ∧ b ≠ bt) h2 bt ⟨.win 1, 1, 1, 0, 0⟩ := ⟨by omega, fun hx => hx.2 rfl, _, g2, .win p1 1 _ _ (by omega) ⟨by omega, by omega⟩ (k2.keep (by omega) (fun x => x) g1)⟩
  refine resize_call TT hL ((k1.trans k2).fz ▸ hf.not_mem (by omega)) fun v h3 n3 k3 a3 => ?_
  simp only [↓wP, wS, Nat.reduceEqDiff, reduceIte, Nat.reduceLeDiff, and_self, cond_true, cond_false, Nat.reduceAdd, Nat.reduceMul]
  refine Code.seq (Code.ops ?_)
  simp only [s17_3, ↓wP, wS, Nat.reduceEqDiff, reduceIte, Nat.reduceLeDiff, and_self, cond_true, cond_false, Nat.reduceAdd, Nat.reduceMul]
  refine Code.ret ?_
  simp only [resVs, resV, pack, ↓wP, wS, Nat.reduceEqDiff, reduceIte, Nat.reduceLeDiff, and_self, cond_true, cond_false, Nat.reduceAdd, Nat.reduceMul]
  exact ⟨trivial, _, rfl, hr _ _ (by omega) ((k1.trans k2).andThen k3 (fun x hx hl => by omega)) a3⟩

theorem here_call (TT : Tab F G) {h : Hp} {Z : Nat → Prop} {bt : Nat} {S : LS} (a : LAt Z h bt S) {R : Value → Hp → Prop} (hr : R (i64 S.here) h) : Call F G 11 [pt bt 0] h R := by
  obtain ⟨lt, nz, rv, hg, hroot⟩ := a
  refine Call.enter (TT.g _ _ (by decide)) TT.f11 (Nat.le_of_ble_eq_true rfl) ?_
  simp only [c11, envOf]
  refine Code.seq (Code.ops ?_)
  simp only [s11_0, ↓wP, wS, Nat.reduceEqDiff, reduceIte, Nat.reduceLeDiff, and_self, cond_true, cond_false, Nat.reduceAdd, Nat.reduceMul]
  refine Code.seq (Code.seq (Code.ops ?_))
  simp only [s11_1, ↓wP, wS, Nat.reduceEqDiff, reduceIte, Nat.reduceLeDiff, and_self, cond_true, cond_false, Nat.reduceAdd, Nat.reduceMul]
  refine Code.cond (t := false) (by simp only [↓wP, wS, Nat.reduceEqDiff, reduceIte, Nat.reduceLeDiff, and_self, cond_true, cond_false, Nat.reduceAdd, Nat.reduceMul]) (fun hx => by cases hx) (fun _ => Code.skip ?_)
  refine Code.seq (Code.ops ?_)
  simp only [s11_3, ↓wP, wS, Nat.reduceEqDiff, reduceIte, Nat.reduceLeDiff, and_self, cond_true, cond_false, Nat.reduceAdd, Nat.reduceMul, rdT_of hg]
  refine Code.ret ?_
  simp only [resVs, resV, pack, ↓wP, wS, Nat.reduceEqDiff, reduceIte, Nat.reduceLeDiff, and_self, cond_true, cond_false, Nat.reduceAdd, Nat.reduceMul]
  exact ⟨trivial, _, rfl, hr⟩

theorem size_call (TT : Tab F G) {h : Hp} {Z : Nat → Prop} {bt : Nat} {S : LS} (a : LAt Z h bt S) {R : Value → Hp → Prop} (hr : R (.tuple #[i64 S.rows, i64 S.cols]) h) : Call F G 20 [pt bt 0] h R := by
  obtain ⟨lt, nz, rv, hg, hroot⟩ := a
  refine Call.enter (TT.g _ _ (by decide)) TT.f20 (Nat.le_of_ble_eq_true rfl) ?_
  simp only [c20, envOf]
  refine Code.seq (Code.ops ?_)
  simp only [s20_0, ↓wP, wS, Nat.reduceEqDiff, reduceIte, Nat.reduceLeDiff, and_self, cond_true, cond_false, Nat.reduceAdd, Nat.reduceMul]
  refine Code.seq (Code.seq (Code.ops ?_))
  simp only [s20_1, ↓wP, wS, Nat.reduceEqDiff, reduceIte, Nat.reduceLeDiff, and_self, cond_true, cond_false, Nat.reduceAdd, Nat.reduceMul]
  refine Code.cond (t := false) (by simp only [↓wP, wS, Nat.reduceEqDiff, reduceIte, Nat.reduceLeDiff, and_self, cond_true, cond_false, Nat.reduceAdd, Nat.reduceMul]) (fun hx => by cases hx) (fun _ => Code.skip ?_)
  refine Code.seq (Code.draw ?_)
  simp only [s20_3, ↓wP, wS, Nat.reduceEqDiff, reduceIte, Nat.reduceLeDiff, and_self, cond_true, cond_false, Nat.reduceAdd, Nat.reduceMul, ↓Draw.cons, dS, decide_true, decide_false, rdT_of hg]
  refine Code.ret ?_
  simp only [resVs, resV, pack, ↓wP, wS, Nat.reduceEqDiff, reduceIte, Nat.reduceLeDiff, and_self, cond_true, cond_false, Nat.reduceAdd, Nat.reduceMul]
  exact ⟨trivial, _, rfl, hr⟩

theorem only_call (TT : Tab F G) {h : Hp} (hf : FzLt h) {Z : Nat → Prop} {bt : Nat} {S : LS} (a : LAt Z h bt S) (hn : bt ∉ h.fz) (hz : ∀ b, h.next ≤ b → Z b) {R : Value → Hp → Prop} (hr : ∀ v h', Kp (· = bt) h h' → LAt Z h' bt { S with tree := .win S.here } → R v h') : Call F G 22 [pt bt 0] h R := by
  obtain ⟨lt, nz, rv, hg, hroot⟩ := a
  refine Call.enter (TT.g _ _ (by decide)) TT.f22 (Nat.le_of_ble_eq_true rfl) ?_
  simp only [c22, envOf]
  refine Code.seq (Code.ops ?_)
  simp only [s22_0, ↓wP, wS, Nat.reduceEqDiff, reduceIte, Nat.reduceLeDiff, and_self, cond_true, cond_false, Nat.reduceAdd, Nat.reduceMul]
  refine Code.cond (t := true) (by simp only [↓wP, wS, Nat.reduceEqDiff, reduceIte, Nat.reduceLeDiff, and_self, cond_true, cond_false, Nat.reduceAdd, Nat.reduceMul]) (fun _ => Code.ops ?_) (fun hx => by cases hx)
  simp only [s22_1, ↓wP, wS, Nat.reduceEqDiff, reduceIte, Nat.reduceLeDiff, and_self, cond_true, cond_false, Nat.reduceAdd, Nat.reduceMul, rdT_of hg]
  refine NewQ.intro fun p1 h1 e1 n1 g1 k1 => ?_
  simp only [↓wP, wS, Nat.reduceEqDiff, reduceIte, Nat.reduceLeDiff, and_self, cond_true, cond_false, Nat.reduceAdd, Nat.reduceMul]
  refine StoreQ.one rfl (k1.keep lt (fun x => x) hg) (by simp) (k1.fz ▸ hn) fun h2 n2 g2 k2 => ?_
  simp only [↓wP, wS, Nat.reduceEqDiff, reduceIte, Nat.reduceLeDiff, and_self, cond_true, cond_false, Nat.reduceAdd, Nat.reduceMul] at g2 ⊢
  simp only [resVs, pack]
  refine ⟨trivial, _, rfl, hr _ _ ((k1.weaken (fun _ _ hx => hx.elim)).trans k2) ⟨by omega, nz, _, g2, .win p1 _ _ _ (by omega) (hz p1 (by omega)) (k2.keep (by omega) (by omega) g1)⟩⟩

theorem focus_call (TT : Tab F G) {h : Hp} (hf : FzLt h) {Z : Nat → Prop} {bt : Nat} {S : LS} (a : LAt Z h bt S) (ok : LOk S) (hn : bt ∉ h.fz) {id : Int} {R : Value → Hp → Prop}
    (hr : ∀ h', Kp (· = bt) h h' → LAt Z h' bt (if idxId (area S) id < 0 then S else { S with here := id }) → R (i64 (if idxId (area S) id < 0 then 4 else 0)) h') : Call F G 23 [pt bt 0, i64 id] h R := by
  refine Call.enter (TT.g _ _ (by decide)) TT.f23 (Nat.le_of_ble_eq_true rfl) ?_
  simp only [c23, envOf]
  refine Code.seq (Code.ops ?_)
  simp only [s23_0, ↓wP, wS, Nat.reduceEqDiff, reduceIte, Nat.reduceLeDiff, and_self, cond_true, cond_false, Nat.reduceAdd, Nat.reduceMul]
  refine Code.seq (Code.block (Code.seq (Code.ops ?_)))
  simp only [s23_1, ↓wP, wS, Nat.reduceEqDiff, reduceIte, Nat.reduceLeDiff, and_self, cond_true, cond_false, Nat.reduceAdd, Nat.reduceMul]
  refine Code.cond (t := false) (by simp only [↓wP, wS, Nat.reduceEqDiff, reduceIte, Nat.reduceLeDiff, and_self, cond_true, cond_false, Nat.reduceAdd, Nat.reduceMul]) (fun hx => by cases hx) (fun _ => Code.seq (Code.ops ?_))
  simp only [s23_3, ↓wP, wS, Nat.reduceEqDiff, reduceIte, Nat.reduceLeDiff, and_self, cond_true, cond_false, Nat.reduceAdd, Nat.reduceMul]
  refine index_call TT hf a ok fun h1 k1 => ?_
  simp only [↓wP, wS, Nat.reduceEqDiff, reduceIte, Nat.reduceLeDiff, and_self, cond_true, cond_false, Nat.reduceAdd, Nat.reduceMul]
  have a1 := a.mono k1.old
  obtain ⟨lt, nz, rv, hg, hroot⟩ := a1
  refine Code.cond (t := decide (idxId (area S) id < 0)) (by simp only [↓wP, wS, Nat.reduceEqDiff, reduceIte, Nat.reduceLeDiff, and_self, cond_true, cond_false, Nat.reduceAdd, Nat.reduceMul]) (fun hx => ?_) (fun hx => ?_)
  · refine Code.seq (Code.ops ?_)
    simp only [s23_4, ↓wP, wS, Nat.reduceEqDiff, reduceIte, Nat.reduceLeDiff, and_self, cond_true, cond_false, Nat.reduceAdd, Nat.reduceMul]
    refine Code.ret ?_
    simp only [resVs, resV, pack, ↓wP, wS, Nat.reduceEqDiff, reduceIte, Nat.reduceLeDiff, and_self, cond_true, cond_false, Nat.reduceAdd, Nat.reduceMul]
    rw [decide_eq_true_eq] at hx
    simp only [hx, if_true] at hr
    exact ⟨trivial, _, rfl, hr _ (k1.weaken (fun _ _ hx => hx.elim)) ⟨lt, nz, rv, hg, hroot⟩⟩
  · refine Code.skip ?_
    refine Code.seq (Code.ops ?_)
    simp only [s23_5, ↓wP, wS, Nat.reduceEqDiff, reduceIte, Nat.reduceLeDiff, and_self, cond_true, cond_false, Nat.reduceAdd, Nat.reduceMul]
    refine StoreQ.one rfl hg (by simp) (k1.fz ▸ hn) fun h2 n2 g2 k2 => ?_
    simp only [↓wP, wS, Nat.reduceEqDiff, reduceIte, Nat.reduceLeDiff, and_self, cond_true, cond_false, Nat.reduceAdd, Nat.reduceMul] at g2 ⊢
    refine Code.seq (Code.ops ?_)
    simp only [s23_6, ↓wP, wS, Nat.reduceEqDiff, reduceIte, Nat.reduceLeDiff, and_self, cond_true, cond_false, Nat.reduceAdd, Nat.reduceMul]
    refine Code.ret ?_
    simp only [resVs, resV, pack, ↓wP, wS, Nat.reduceEqDiff, reduceIte, Nat.reduceLeDiff, and_self, cond_true, cond_false, Nat.reduceAdd, Nat.reduceMul]
    rw [decide_eq_false_iff_not] at hx
    simp only [hx, if_false] at hr
    exact ⟨trivial, _, rfl, hr _ ((k1.weaken (fun _ _ hx => hx.elim)).trans k2) ⟨by rw [n2]; exact lt, nz, rv, g2, hroot.keep k2 (fun b hb => by rw [hb]; exact nz)⟩⟩
end
end Go.Eng
