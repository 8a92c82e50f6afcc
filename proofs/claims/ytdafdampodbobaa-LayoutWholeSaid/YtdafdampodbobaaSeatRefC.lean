/- The document's tree: what its methods come to. -/
import Derived.Test.YtdafdampodbobaaSeatRefB
namespace Go.Eng
set_option linter.unusedSimpArgs false
set_option linter.unusedVariables false

theorem NAt.threes {Z : Nat → Prop} {h : Hp} {ns : List (List Value)} {ts : List Tr} (hl : ns.length = ts.length) (hk : ∀ (i : Nat) (n : List Value) (t : Tr), ns[i]? = some n → ts[i]? = some t → NAt Z h n t) : ∀ n ∈ ns, n.length = 3 := by
  intro n hn
  obtain ⟨i, hi⟩ := List.mem_iff_getElem?.1 hn
  have hlt : i < ts.length := by have := (List.getElem?_eq_some_iff.1 hi).1; omega
  exact (hk i n _ hi (List.getElem?_eq_getElem hlt)).three.1

/-- The document's tree in memory. -/
structure RAt (Z : Nat → Prop) (h : Hp) (bx : Nat) (S : LS) : Prop where
  lt : bx < h.next
  nz : ¬ Z bx
  root : ∃ n, h.t.get bx = some (.cells (n ++ [i64 S.last, i64 S.here, i64 S.rows, i64 S.cols]) 0 true) ∧ NAt Z h n S.tree

theorem RAt.mono {Z : Nat → Prop} {h h' : Hp} (o : Old h h') {bx : Nat} {S : LS} (a : RAt Z h bx S) : RAt Z h' bx S := by
  obtain ⟨lt, nz, n, h1, h2⟩ := a
  exact ⟨Nat.lt_of_lt_of_le lt o.next, nz, n, (o.get bx lt).trans h1, h2.mono o⟩
theorem NAt.keep {X Z : Nat → Prop} {h h' : Hp} (k : Kp X h h') (hX : ∀ b, X b → ¬ Z b) {n : List Value} {t : Tr} (ht : NAt Z h n t) : NAt Z h' n t := ht.move k.next (fun b hb hz => k.get b hb (fun hx => hX b hx hz)) (fun _ _ hz => hz)
theorem RAt.other {X Z : Nat → Prop} {h h' : Hp} (k : Kp X h h') {bx : Nat} {S : LS} (a : RAt Z h bx S) (hb : ¬ X bx) (hX : ∀ b, X b → ¬ Z b) : RAt Z h' bx S := by
  obtain ⟨lt, nz, n, h1, h2⟩ := a
  exact ⟨Nat.lt_of_lt_of_le lt k.next, nz, n, k.keep lt hb h1, h2.keep k hX⟩

section
variable {F : FuncId → Option SFunc} {G : FuncId → List Value → Option Value}

theorem ref_lays_all (TT : Tab F G) {Z : Nat → Prop} {h0 : Hp} {n : List Value} {t : Tr} (ht : NAt Z h0 n t) : Good t → (ids t).length ≤ 1000 → RefLays F G h0 n t := by
  induction ht with
  | win id =>
    intro _ _ h top left rows cols R ho hf r1 r2 r3 r4 hr
    refine Call.enter (TT.g _ _ (by decide)) TT.f48 (Nat.le_of_ble_eq_true rfl) ?_
    simp only [c48, envOf]
    refine Code.seq (Code.ops ?_)
    simp only [s48_0, ↓wP, wS, Nat.reduceEqDiff, reduceIte, Nat.reduceLeDiff, and_self, cond_true, cond_false, Nat.reduceAdd, Nat.reduceMul]
    refine NewQ.intro fun p5 h1 e1 n1 g1 k1 => ?_
    simp only [↓wP, wS, Nat.reduceEqDiff, reduceIte, Nat.reduceLeDiff, and_self, cond_true, cond_false, Nat.reduceAdd, Nat.reduceMul]
    refine Code.seq (Code.seq (Code.ops ?_))
    simp only [s48_1, ↓wP, wS, Nat.reduceEqDiff, reduceIte, Nat.reduceLeDiff, and_self, cond_true, cond_false, Nat.reduceAdd, Nat.reduceMul, rdT_of g1]
    refine Code.cond (t := true) (by simp only [↓wP, wS, Nat.reduceEqDiff, reduceIte, Nat.reduceLeDiff, and_self, cond_true, cond_false, Nat.reduceAdd, Nat.reduceMul]; rfl) (fun _ => Code.seq (Code.ops ?_)) (fun h => by cases h)
    simp only [s48_2, ↓wP, wS, Nat.reduceEqDiff, reduceIte, Nat.reduceLeDiff, and_self, cond_true, cond_false, Nat.reduceAdd, Nat.reduceMul, rdT_of g1]
    refine NewQ.intro fun pm h2 e2 n2 g2 k2 => ?_
    simp only [↓wP, wS, Nat.reduceEqDiff, reduceIte, Nat.reduceLeDiff, and_self, cond_true, cond_false, Nat.reduceAdd, Nat.reduceMul]
    refine Code.ret ?_
    simp only [resVs, resV, pack, ↓wP, wS, Nat.reduceEqDiff, reduceIte, Nat.reduceLeDiff, and_self, cond_true, cond_false, Nat.reduceAdd, Nat.reduceMul]
    refine ⟨trivial, _, rfl, hr _ _ (k1.trans k2) ⟨pm, ?_, by omega, by omega, ?_⟩⟩
    · rw [plc]; rfl
    · rw [plc]; exact g2
  | grp side kb sz own ns ts hk hz hg hl hkids ih =>
    intro hgood hsmall h top left rows cols R ho hf r1 r2 r3 r4 hr
    have hgood' := hgood
    rw [Good] at hgood'
    have hsm' := hsmall
    rw [ids] at hsm'
    refine ref_grp TT ho hf (Nat.lt_of_lt_of_le hk ho.next) ((ho.get kb hk).trans hg) (NAt.threes hl hkids) hl hgood hsmall r1 r2 r3 r4 (fun i n t hn ht => ?_) hr
    have hg2 := goods_get ts hgood'.2 i t ht
    exact ih i n t hn ht hg2.1 (by omega)
end
end Go.Eng
