/- A deed with both trees: they stay the same. -/
import Derived.Test.YtdafdampodbobaaSeatPureC
namespace Go.Eng
set_option linter.unusedSimpArgs false
set_option linter.unusedVariables false

def Wz (bt bx : Nat) (b : Nat) : Prop := b ≠ bt ∧ b ≠ bx

/-- Both trees in memory. -/
structure Duo (h : Hp) (bt bx : Nat) (S : LS) : Prop where
  ne : bt ≠ bx
  t : LAt (Wz bt bx) h bt S
  x : RAt (Wz bt bx) h bx S

theorem LAt.fz {Z : Nat → Prop} {h : Hp} {f : List Nat} {bt : Nat} {S : LS} (a : LAt Z h bt S) : LAt Z ⟨h.t, h.next, f⟩ bt S := LAt.mono (h := h) (h' := ⟨h.t, h.next, f⟩) ⟨Nat.le_refl _, fun _ _ => rfl⟩ a
theorem RAt.fz {Z : Nat → Prop} {h : Hp} {f : List Nat} {bx : Nat} {S : LS} (a : RAt Z h bx S) : RAt Z ⟨h.t, h.next, f⟩ bx S := RAt.mono (h := h) (h' := ⟨h.t, h.next, f⟩) ⟨Nat.le_refl _, fun _ _ => rfl⟩ a

section
variable {h h' : Hp} {bt bx : Nat} {S S' : LS}
theorem Duo.mono (D : Duo h bt bx S) (o : Old h h') : Duo h' bt bx S := ⟨D.ne, D.t.mono o, D.x.mono o⟩
theorem Duo.hz (D : Duo h bt bx S) (hn : h.next ≤ h'.next) : ∀ b, h'.next ≤ b → Wz bt bx b := fun b hb => ⟨by have := D.t.lt; omega, by have := D.x.lt; omega⟩
theorem Duo.afterT (D : Duo h bt bx S) (k : Kp (· = bt) h h') : RAt (Wz bt bx) h' bx S := D.x.other k (fun hx => D.ne hx.symm) (fun b hb hz => hz.1 hb)
theorem Duo.afterX (hne : bt ≠ bx) (a : LAt (Wz bt bx) h bt S) (k : Kp (· = bx) h h') : LAt (Wz bt bx) h' bt S := a.other k hne (fun b hb hz => hz.2 hb)

variable {F : FuncId → Option SFunc} {G : FuncId → List Value → Option Value}

theorem rsplitA_pair (S : LS) (side : Bool) : ∃ u v : Int, rsplitA S side = .tuple #[i64 u, i64 v] := by
  unfold rsplitA
  split <;> exact ⟨_, _, rfl⟩

theorem do_call (TT : Tab F G) (hf : FzLt h) (D : Duo h bt bx S) {k : Nat} (I : Inv k S) (hk : k ≤ 900) (nt : bt ∉ h.fz) (nx : bx ∉ h.fz) {kind a b : Int} {side : Bool} {R : Value → Hp → Prop}
    (hr : ∀ S' h', Inv (k + 1) S' → Duo h' bt bx S' → Kp (fun y => y = bt ∨ y = bx) h h' → R (.bool true) h') : Call F G 19 [pt bt 0, pt bx 0, .agg [i64 kind, i64 a, i64 b, .bool side].toArray] h R := by
  have ne := D.ne
  refine Call.enter (TT.g _ _ (by decide)) TT.f19 (Nat.le_of_ble_eq_true rfl) ?_
  simp only [c19, envOf]
  refine Code.seq (Code.ops ?_)
  simp only [s19_0, ↓wP, wS, Nat.reduceEqDiff, reduceIte, Nat.reduceLeDiff, and_self, cond_true, cond_false, Nat.reduceAdd, Nat.reduceMul]
  refine NewQ.intro fun p5 h1 e1 n1 g1 k1 => ?_
  simp only [↓wP, wS, Nat.reduceEqDiff, reduceIte, Nat.reduceLeDiff, and_self, cond_true, cond_false, Nat.reduceAdd, Nat.reduceMul]
  have D1 := D.mono k1.old
  have hf1 := k1.fzLt hf
  have hlt : bt < p5 ∧ bx < p5 := ⟨by have := D.t.lt; omega, by have := D.x.lt; omega⟩
  have nt1 : bt ∉ h1.fz := by rw [k1.fz]; exact nt
  have nx1 : bx ∉ h1.fz := by rw [k1.fz]; exact nx
  refine Code.seq (Code.seq (Code.ops ?_))
  simp only [s19_1, ↓wP, wS, Nat.reduceEqDiff, reduceIte, Nat.reduceLeDiff, and_self, cond_true, cond_false, Nat.reduceAdd, Nat.reduceMul, rdT_of g1]
  -- both behind a deed
  have fin : ∀ (S' : LS) (h2 h3 : Hp), Inv (k + 1) S' → Kp (· = bt) h1 h2 → LAt (Wz bt bx) h2 bt S' → Kp (· = bx) h2 h3 → RAt (Wz bt bx) h3 bx S' → R (.bool true) h3 := by
    intro S' h2 h3 I' k2 a2 k3 x3
    refine hr S' h3 I' ⟨ne, Duo.afterX ne a2 k3, x3⟩ ?_
    exact ((k1.weaken (fun _ _ hx => hx.elim)).trans (k2.weaken (fun _ _ hx => .inl hx))).trans (k3.weaken (fun _ _ hx => .inr hx))
  -- the same, while the deed is held
  have finD : ∀ (S' : LS) (h2 h3 : Hp) (f g : List Nat), Inv (k + 1) S' → Kp (· = bt) ⟨h1.t, h1.next, f⟩ h2 → LAt (Wz bt bx) h2 bt S' → Kp (· = bx) ⟨h2.t, h2.next, g⟩ h3 → RAt (Wz bt bx) h3 bx S' → R (.bool true) ⟨h3.t, h3.next, h1.fz⟩ := by
    intro S' h2 h3 f g I' k2 a2 k3 x3
    refine fin S' ⟨h2.t, h2.next, h1.fz⟩ _ I' ⟨k2.next, k2.get, rfl⟩ a2.fz ⟨k3.next, k3.get, rfl⟩ x3.fz
  have Dp : ∀ f : List Nat, Duo ⟨h1.t, h1.next, f⟩ bt bx S := fun f => D1.mono ⟨Nat.le_refl _, fun _ _ => rfl⟩
  have fp1 : FzLt ⟨h1.t, h1.next, p5 :: h1.fz⟩ := fun b hb => by
    rcases List.mem_cons.1 hb with rfl | hb
    · simp only; omega
    · exact hf1 b hb
  have ntp : bt ∉ p5 :: h1.fz := by rw [List.mem_cons, not_or]; exact ⟨by omega, nt1⟩
  have f2 : ∀ h2 : Hp, h1.next ≤ h2.next → FzLt ⟨h2.t, h2.next, h1.fz⟩ := fun h2 hn b hb => Nat.lt_of_lt_of_le (hf1 b hb) hn
  refine Code.block (Code.seq (Code.ops ?_))
  simp only [s19_2, ↓wP, wS, Nat.reduceEqDiff, reduceIte, Nat.reduceLeDiff, and_self, cond_true, cond_false, Nat.reduceAdd, Nat.reduceMul]
  refine Code.cond (t := decide (kind = 0)) (by simp only [↓wP, wS, Nat.reduceEqDiff, reduceIte, Nat.reduceLeDiff, and_self, cond_true, cond_false, Nat.reduceAdd, Nat.reduceMul]) (fun h0 => ?_) (fun h0 => Code.seq (Code.ops ?_))
  · refine Code.seq (Code.ops ?_)
    simp only [s19_3, ↓wP, wS, Nat.reduceEqDiff, reduceIte, Nat.reduceLeDiff, and_self, cond_true, cond_false, Nat.reduceAdd, Nat.reduceMul, rdT_of g1]
    refine split_call TT hf1 D1.t I.ok I.sm (by rw [I.split_tree (by omega)]; simp) nt1 (D1.hz (Nat.le_refl _)) fun h2 k2 a2 => ?_
    obtain ⟨e1, e2⟩ := I.split_same (by omega) side
    obtain ⟨u, v, huv⟩ := rsplitA_pair S side
    rw [e1] at a2
    rw [e2, huv]
    simp only [↓wP, wS, Nat.reduceEqDiff, reduceIte, Nat.reduceLeDiff, and_self, cond_true, cond_false, Nat.reduceAdd, Nat.reduceMul]
    have g2 := k2.keep (by omega) (by omega) g1
    refine Code.seq (Code.ops ?_)
    simp only [s19_4, ↓wP, wS, Nat.reduceEqDiff, reduceIte, Nat.reduceLeDiff, and_self, cond_true, cond_false, Nat.reduceAdd, Nat.reduceMul, rdT_of g2]
    refine ref_split TT (k2.fzLt hf1) (D1.afterT k2) I.ok I.ic I.sm (by rw [k2.fz]; exact nx1) (D1.hz k2.next) fun h3 k3 x3 => ?_
    rw [huv]
    simp only [↓wP, wS, Nat.reduceEqDiff, reduceIte, Nat.reduceLeDiff, and_self, cond_true, cond_false, Nat.reduceAdd, Nat.reduceMul]
    refine Code.seq (Code.ops ?_)
    simp only [s19_5, ↓wP, wS, Nat.reduceEqDiff, reduceIte, Nat.reduceLeDiff, and_self, cond_true, cond_false, Nat.reduceAdd, Nat.reduceMul, eq_self, decide_true]
    refine Code.ret ?_
    simp only [resVs, resV, pack, ↓wP, wS, Nat.reduceEqDiff, reduceIte, Nat.reduceLeDiff, and_self, cond_true, cond_false, Nat.reduceAdd, Nat.reduceMul]
    exact ⟨trivial, _, rfl, fin _ h2 h3 (I.split (by omega) side) k2 a2 k3 x3⟩
  simp only [s19_6, ↓wP, wS, Nat.reduceEqDiff, reduceIte, Nat.reduceLeDiff, and_self, cond_true, cond_false, Nat.reduceAdd, Nat.reduceMul]
  refine Code.cond (t := decide (kind = 1)) (by simp only [↓wP, wS, Nat.reduceEqDiff, reduceIte, Nat.reduceLeDiff, and_self, cond_true, cond_false, Nat.reduceAdd, Nat.reduceMul]) (fun h0 => ?_) (fun h0 => Code.seq (Code.ops ?_))
  · refine Code.seq (Code.draw ?_)
    simp only [s19_7, ↓wP, wS, Nat.reduceEqDiff, reduceIte, Nat.reduceLeDiff, and_self, cond_true, cond_false, Nat.reduceAdd, Nat.reduceMul, ↓Draw.cons, dS, decide_true, decide_false, fzStep_load, rdT_of g1]
    obtain ⟨e1, e2⟩ := I.close_same a
    refine close_call TT (h := ⟨h1.t, h1.next, p5 :: h1.fz⟩) fp1 D1.t.fz I.ok I.sm (id := a) (fun t ts hw hid hx => ?_) ntp (D1.hz (Nat.le_refl _)) fun h2 k2 a2 => ?_
    · have hi : a ∈ ids S.tree := by rw [idxId_neg] at hx; simpa using hx
      by_cases hl : (ids S.tree).length = 1
      · rw [close_one I hi hl] at hw; cases hw
      · rw [(I.close_ids hi hl).1] at hw
        cases hw
        exact I.close_ix hx (by rw [I.alen]; exact hl)
    rw [e1] at a2
    rw [e2]
    have nx2 : h1.next ≤ h2.next := k2.next
    simp only [↓wP, wS, Nat.reduceEqDiff, reduceIte, Nat.reduceLeDiff, and_self, cond_true, cond_false, Nat.reduceAdd, Nat.reduceMul, ↓Draw.cons, dS, decide_true, decide_false]
    refine ref_close TT (h := ⟨h2.t, h2.next, h1.fz⟩) (f2 h2 nx2) (RAt.fz ((Dp _).afterT k2)) I.ok I.ic I.sm (id := a) (fun _ hx hl => I.close_ix hx hl) nx1 (D1.hz nx2) fun h3 k3 x3 => ?_
    simp only [↓wP, wS, Nat.reduceEqDiff, reduceIte, Nat.reduceLeDiff, and_self, cond_true, cond_false, Nat.reduceAdd, Nat.reduceMul, ↓Draw.cons, dS, decide_true, decide_false, eq_self, decide_true]
    refine Code.ret ?_
    simp only [resVs, resV, pack, ↓wP, wS, Nat.reduceEqDiff, reduceIte, Nat.reduceLeDiff, and_self, cond_true, cond_false, Nat.reduceAdd, Nat.reduceMul]
    exact ⟨trivial, _, rfl, finD _ h2 h3 _ _ ((I.close a).mono (by omega)) k2 a2 k3 x3⟩
  simp only [s19_8, ↓wP, wS, Nat.reduceEqDiff, reduceIte, Nat.reduceLeDiff, and_self, cond_true, cond_false, Nat.reduceAdd, Nat.reduceMul]
  refine Code.cond (t := decide (kind = 2)) (by simp only [↓wP, wS, Nat.reduceEqDiff, reduceIte, Nat.reduceLeDiff, and_self, cond_true, cond_false, Nat.reduceAdd, Nat.reduceMul]) (fun h0 => ?_) (fun h0 => Code.seq (Code.ops ?_))
  · refine Code.seq (Code.ops ?_)
    simp only [s19_9, ↓wP, wS, Nat.reduceEqDiff, reduceIte, Nat.reduceLeDiff, and_self, cond_true, cond_false, Nat.reduceAdd, Nat.reduceMul]
    refine only_call TT hf1 D1.t nt1 (D1.hz (Nat.le_refl _)) fun v h2 k2 a2 => ?_
    simp only [↓wP, wS, Nat.reduceEqDiff, reduceIte, Nat.reduceLeDiff, and_self, cond_true, cond_false, Nat.reduceAdd, Nat.reduceMul]
    refine Code.ops ?_
    simp only [s19_10, ↓wP, wS, Nat.reduceEqDiff, reduceIte, Nat.reduceLeDiff, and_self, cond_true, cond_false, Nat.reduceAdd, Nat.reduceMul]
    refine ref_only TT (k2.fzLt hf1) (D1.afterT k2) (by rw [k2.fz]; exact nx1) fun v h3 k3 x3 => ?_
    simp only [↓wP, wS, Nat.reduceEqDiff, reduceIte, Nat.reduceLeDiff, and_self, cond_true, cond_false, Nat.reduceAdd, Nat.reduceMul]
    refine Code.seq (Code.ops ?_)
    simp only [s19_17, ↓wP, wS, Nat.reduceEqDiff, reduceIte, Nat.reduceLeDiff, and_self, cond_true, cond_false, Nat.reduceAdd, Nat.reduceMul]
    refine Code.ret ?_
    simp only [resVs, resV, pack, ↓wP, wS, Nat.reduceEqDiff, reduceIte, Nat.reduceLeDiff, and_self, cond_true, cond_false, Nat.reduceAdd, Nat.reduceMul]
    exact ⟨trivial, _, rfl, fin _ h2 h3 (I.only.mono (by omega)) k2 a2 k3 x3⟩
  simp only [s19_11, ↓wP, wS, Nat.reduceEqDiff, reduceIte, Nat.reduceLeDiff, and_self, cond_true, cond_false, Nat.reduceAdd, Nat.reduceMul]
  refine Code.cond (t := decide (kind = 3)) (by simp only [↓wP, wS, Nat.reduceEqDiff, reduceIte, Nat.reduceLeDiff, and_self, cond_true, cond_false, Nat.reduceAdd, Nat.reduceMul]) (fun h0 => ?_) (fun h0 => Code.seq (Code.ops ?_))
  · refine Code.seq (Code.draw ?_)
    simp only [s19_12, ↓wP, wS, Nat.reduceEqDiff, reduceIte, Nat.reduceLeDiff, and_self, cond_true, cond_false, Nat.reduceAdd, Nat.reduceMul, ↓Draw.cons, dS, decide_true, decide_false, fzStep_load, rdT_of g1]
    refine focus_call TT (h := ⟨h1.t, h1.next, p5 :: h1.fz⟩) fp1 D1.t.fz I.ok ntp (id := a) fun h2 k2 a2 => ?_
    have nx2 : h1.next ≤ h2.next := k2.next
    simp only [↓wP, wS, Nat.reduceEqDiff, reduceIte, Nat.reduceLeDiff, and_self, cond_true, cond_false, Nat.reduceAdd, Nat.reduceMul, ↓Draw.cons, dS, decide_true, decide_false]
    refine ref_focus TT (h := ⟨h2.t, h2.next, h1.fz⟩) (f2 h2 nx2) (RAt.fz ((Dp _).afterT k2)) I.ok I.ic (id := a) nx1 fun h3 k3 x3 => ?_
    simp only [↓wP, wS, Nat.reduceEqDiff, reduceIte, Nat.reduceLeDiff, and_self, cond_true, cond_false, Nat.reduceAdd, Nat.reduceMul, ↓Draw.cons, dS, decide_true, decide_false, focusA, eq_self, decide_true]
    refine Code.ret ?_
    simp only [resVs, resV, pack, ↓wP, wS, Nat.reduceEqDiff, reduceIte, Nat.reduceLeDiff, and_self, cond_true, cond_false, Nat.reduceAdd, Nat.reduceMul]
    exact ⟨trivial, _, rfl, finD _ h2 h3 _ _ ((I.focus a).mono (by omega)) k2 a2 k3 x3⟩
  simp only [s19_13, ↓wP, wS, Nat.reduceEqDiff, reduceIte, Nat.reduceLeDiff, and_self, cond_true, cond_false, Nat.reduceAdd, Nat.reduceMul]
  refine Code.cond (t := decide (kind = 4)) (by simp only [↓wP, wS, Nat.reduceEqDiff, reduceIte, Nat.reduceLeDiff, and_self, cond_true, cond_false, Nat.reduceAdd, Nat.reduceMul]) (fun h0 => ?_) (fun h0 => ?_)
  · refine Code.seq (Code.ops ?_)
    simp only [s19_14, ↓wP, wS, Nat.reduceEqDiff, reduceIte, Nat.reduceLeDiff, and_self, cond_true, cond_false, Nat.reduceAdd, Nat.reduceMul, rdT_of g1]
    refine go_call TT hf1 D1.t I.ok (by' := a) nt1 fun v h2 k2 a2 => ?_
    obtain ⟨e1, e2⟩ := I.go_same a
    rw [e1] at a2
    simp only [↓wP, wS, Nat.reduceEqDiff, reduceIte, Nat.reduceLeDiff, and_self, cond_true, cond_false, Nat.reduceAdd, Nat.reduceMul]
    have g2 := k2.keep (by omega) (by omega) g1
    refine Code.ops ?_
    simp only [s19_15, ↓wP, wS, Nat.reduceEqDiff, reduceIte, Nat.reduceLeDiff, and_self, cond_true, cond_false, Nat.reduceAdd, Nat.reduceMul, rdT_of g2]
    refine ref_go TT (k2.fzLt hf1) (D1.afterT k2) I.ok I.ic (by' := a) e2 (by rw [k2.fz]; exact nx1) fun v h3 k3 x3 => ?_
    simp only [↓wP, wS, Nat.reduceEqDiff, reduceIte, Nat.reduceLeDiff, and_self, cond_true, cond_false, Nat.reduceAdd, Nat.reduceMul]
    refine Code.seq (Code.ops ?_)
    simp only [s19_17, ↓wP, wS, Nat.reduceEqDiff, reduceIte, Nat.reduceLeDiff, and_self, cond_true, cond_false, Nat.reduceAdd, Nat.reduceMul]
    refine Code.ret ?_
    simp only [resVs, resV, pack, ↓wP, wS, Nat.reduceEqDiff, reduceIte, Nat.reduceLeDiff, and_self, cond_true, cond_false, Nat.reduceAdd, Nat.reduceMul]
    exact ⟨trivial, _, rfl, fin _ h2 h3 ((I.go a).mono (by omega)) k2 a2 k3 x3⟩
  · refine Code.seq (Code.draw ?_)
    simp only [s19_16, ↓wP, wS, Nat.reduceEqDiff, reduceIte, Nat.reduceLeDiff, and_self, cond_true, cond_false, Nat.reduceAdd, Nat.reduceMul, ↓Draw.cons, dS, decide_true, decide_false, fzStep_load, rdT_of g1]
    obtain ⟨n, S', hn, r1, r2, I'⟩ := shrinks 16 (I.size a b) (by have := I.le; simpa using this)
    have fp2 : FzLt ⟨h1.t, h1.next, p5 :: p5 :: h1.fz⟩ := fun b hb => by
      rcases List.mem_cons.1 hb with rfl | hb
      · simp only; omega
      · exact fp1 b hb
    refine resize_all TT (h := ⟨h1.t, h1.next, p5 :: p5 :: h1.fz⟩) fp2 D1.t.fz (by rw [List.mem_cons, not_or]; exact ⟨by omega, ntp⟩) (D1.hz (Nat.le_refl _)) (by omega) r1 fun h2 k2 a2 => ?_
    have nx2 : h1.next ≤ h2.next := k2.next
    simp only [↓wP, wS, Nat.reduceEqDiff, reduceIte, Nat.reduceLeDiff, and_self, cond_true, cond_false, Nat.reduceAdd, Nat.reduceMul, ↓Draw.cons, dS, decide_true, decide_false]
    refine ref_resize TT (h := ⟨h2.t, h2.next, h1.fz⟩) (f2 h2 nx2) (RAt.fz ((Dp _).afterT k2)) nx1 (D1.hz nx2) (by omega) r2 fun h3 k3 x3 => ?_
    simp only [↓wP, wS, Nat.reduceEqDiff, reduceIte, Nat.reduceLeDiff, and_self, cond_true, cond_false, Nat.reduceAdd, Nat.reduceMul, ↓Draw.cons, dS, decide_true, decide_false, eq_self, decide_true]
    refine Code.ret ?_
    simp only [resVs, resV, pack, ↓wP, wS, Nat.reduceEqDiff, reduceIte, Nat.reduceLeDiff, and_self, cond_true, cond_false, Nat.reduceAdd, Nat.reduceMul]
    exact ⟨trivial, _, rfl, finD _ h2 h3 _ _ (I'.mono (by omega)) k2 a2 k3 x3⟩
end
end Go.Eng
