/- The law of plays: what it walks through. -/
import Derived.Test.YtdafdampodbobaaSeatPlayed
namespace Go.Eng
set_option linter.unusedSimpArgs false
set_option linter.unusedVariables false
section
variable {F : FuncId → Option SFunc} {G : FuncId → List Value → Option Value}

structure YI (h : Hp) (av : Value) (bt bx : Nat) (S : LS) (i : Nat) (s : St) : Prop where
  e2 : s.e.get 2 = some av
  e7 : s.e.get 7 = some (pt bt 0)
  e8 : s.e.get 8 = some (pt bx 0)
  e9 : s.e.get 9 = some (i64 i)
  inv : Inv i S
  duo : Duo s.h bt bx S
  heap : K0 h s.h
  lt : h.next ≤ bt
  lx : h.next ≤ bx

/-- Behind a deed: both tell the same. -/
theorem plays_tell (TT : Tab F G) {h : Hp} (hf : FzLt h) {av : Value} {bt bx : Nat} {S : LS} {i k : Nat} (hi : i ≤ 60) {e : Env} {h2 : Hp} (e2 : e.get 2 = some av) (e7 : e.get 7 = some (pt bt 0)) (e8 : e.get 8 = some (pt bx 0)) (e9 : e.get 9 = some (i64 i))
    (inv : Inv k S) (duo : Duo h2 bt bx S) (hk : K0 h h2) (lt : h.next ≤ bt) (lx : h.next ≤ bx) {Q : Flow → St → Prop}
    (hq : ∀ e' h3, K0 h h3 → Duo h3 bt bx S → e'.get 2 = some av → e'.get 7 = some (pt bt 0) → e'.get 8 = some (pt bx 0) → e'.get 9 = some (i64 i) → Q .next ⟨e', h3⟩) :
    Code F G (.seq (.ops s5_8) (.seq (.draw s5_9) (.cond (.t 78) (.seq (.ops s5_10) (.ret)) (.skip)))) ⟨e, h2⟩ Q := by
  have hf2 := hk.fzLt hf
  refine Code.seq (Code.ops ?_)
  simp only [s5_8, ↓wP, wS, Nat.reduceEqDiff, reduceIte, Nat.reduceLeDiff, and_self, cond_true, cond_false, Nat.reduceAdd, Nat.reduceMul, e7]
  refine size_call TT duo.t ?_
  simp only [↓wP, wS, Nat.reduceEqDiff, reduceIte, Nat.reduceLeDiff, and_self, cond_true, cond_false, Nat.reduceAdd, Nat.reduceMul]
  refine Code.seq (Code.draw ?_)
  simp only [s5_9, ↓wP, wS, Nat.reduceEqDiff, reduceIte, Nat.reduceLeDiff, and_self, cond_true, cond_false, Nat.reduceAdd, Nat.reduceMul, ↓Draw.cons, dS, decide_true, decide_false, e7, e8]
  refine wins_call TT (h := ⟨h2.t, h2.next, h2.fz⟩) hf2 duo.t inv.ok fun r3 h3 k3 w3 => ?_
  have D3 := duo.mono k3.old
  simp only [↓wP, wS, Nat.reduceEqDiff, reduceIte, Nat.reduceLeDiff, and_self, cond_true, cond_false, Nat.reduceAdd, Nat.reduceMul, ↓Draw.cons, dS, decide_true, decide_false]
  have hf3 : FzLt ⟨h3.t, h3.next, h2.fz⟩ := fun b hb => Nat.lt_of_lt_of_le (hf2 b hb) k3.next
  refine ref_wins TT (h := ⟨h3.t, h3.next, h2.fz⟩) hf3 D3.x.fz inv.ok inv.ic fun r4 h4 k4 w4 => ?_
  have D4 := (D3.mono (h' := ⟨h3.t, h3.next, h2.fz⟩) ⟨Nat.le_refl _, fun _ _ => rfl⟩).mono k4.old
  obtain ⟨b3, rfl, u1, u2, u3⟩ := w3
  obtain ⟨b4, rfl, v1, v2, v3⟩ := w4
  simp only [↓wP, wS, Nat.reduceEqDiff, reduceIte, Nat.reduceLeDiff, and_self, cond_true, cond_false, Nat.reduceAdd, Nat.reduceMul, ↓Draw.cons, dS, decide_true, decide_false]
  have u4 := k4.keep (b := b3) u2 (fun x => x) u3
  have hwl : (winsOf (area S)).length ≤ 1000 := by
    rw [show (winsOf (area S)).length = (area S).length by unfold winsOf; split <;> simp, inv.alen]
    have := inv.le
    omega
  refine same_call TT (h := ⟨h4.t, h4.next, h2.fz⟩) hwl u4 v3 ?_
  obtain ⟨x, y, z, hg4, _⟩ := D4.x.cells
  simp only [↓wP, wS, Nat.reduceEqDiff, reduceIte, Nat.reduceLeDiff, and_self, cond_true, cond_false, Nat.reduceAdd, Nat.reduceMul, ↓Draw.cons, dS, decide_true, decide_false, e7, e8, Bool.not_true, rdT_of hg4, fzStep_load]
  refine here_call TT (h := ⟨h4.t, h4.next, bx :: h2.fz⟩) (LAt.fz D4.t) ?_
  simp only [↓wP, wS, Nat.reduceEqDiff, reduceIte, Nat.reduceLeDiff, and_self, cond_true, cond_false, Nat.reduceAdd, Nat.reduceMul, ↓Draw.cons, dS, decide_true, decide_false, e8, rdT_of hg4, fzStep_load, ne_eq, eq_self, not_true_eq_false, decide_false]
  refine Code.cond (t := false) (by simp only [↓wP, wS, Nat.reduceEqDiff, reduceIte, Nat.reduceLeDiff, and_self, cond_true, cond_false, Nat.reduceAdd, Nat.reduceMul]) (fun h => by cases h) (fun _ => Code.skip ?_)
  refine hq _ _ ?_ ?_ (by simp only [↓wP, wS, Nat.reduceEqDiff, reduceIte, Nat.reduceLeDiff, and_self, cond_true, cond_false, Nat.reduceAdd, Nat.reduceMul, e2]) (by simp only [↓wP, wS, Nat.reduceEqDiff, reduceIte, Nat.reduceLeDiff, and_self, cond_true, cond_false, Nat.reduceAdd, Nat.reduceMul, e7]) (by simp only [↓wP, wS, Nat.reduceEqDiff, reduceIte, Nat.reduceLeDiff, and_self, cond_true, cond_false, Nat.reduceAdd, Nat.reduceMul, e8]) (by simp only [↓wP, wS, Nat.reduceEqDiff, reduceIte, Nat.reduceLeDiff, and_self, cond_true, cond_false, Nat.reduceAdd, Nat.reduceMul, e9])
  · refine hk.trans ⟨Nat.le_trans k3.next k4.next, fun b hb _ => (k4.get b (Nat.lt_of_lt_of_le hb k3.next) (fun x => x)).trans (k3.get b hb (fun x => x)), rfl⟩
  · exact D4.mono (h' := ⟨h4.t, h4.next, h2.fz⟩) ⟨Nat.le_refl _, fun _ _ => rfl⟩

theorem plays_loop (TT : Tab F G) {h : Hp} (hf : FzLt h) {av : Value} {ds : List Deed} (A : ArgAt h av ds) {bt bx : Nat} {Q : Flow → St → Prop} :
    ∀ (n i : Nat) (S : LS) (s : St), i + n = min ds.length 60 + 1 → YI h av bt bx S i s → (∀ s', Q (.exit 0) s') → Code F G (.loop b5_12) s Q := by
  intro n
  induction n with
  | zero =>
    intro i S s hn I hq
    obtain ⟨e, h2⟩ := s
    obtain ⟨e2, e7, e8, e9, inv, duo, hk, lt, lx⟩ := I
    simp only at e2 e7 e8 e9 duo hk
    refine Code.loop (Code.seq (Code.seq (Code.ops ?_)))
    by_cases hl : i ≤ ds.length
    · have hl1 : (i : Int) ≤ (ds.length : Int) := by omega
      have h60 : ¬ (i : Int) ≤ 60 := by omega
      simp only [s5_5, ↓wP, wS, Nat.reduceEqDiff, reduceIte, Nat.reduceLeDiff, and_self, cond_true, cond_false, Nat.reduceAdd, Nat.reduceMul, e2, e9, A.len, hl1, h60, decide_true, decide_false]
      refine Code.cond (t := false) (by simp only [↓wP, wS, Nat.reduceEqDiff, reduceIte, Nat.reduceLeDiff, and_self, cond_true, cond_false, Nat.reduceAdd, Nat.reduceMul]) (fun h => by cases h) (fun _ => Code.exit ?_)
      exact hq _
    · have hl1 : ¬ (i : Int) ≤ (ds.length : Int) := by omega
      simp only [s5_5, ↓wP, wS, Nat.reduceEqDiff, reduceIte, Nat.reduceLeDiff, and_self, cond_true, cond_false, Nat.reduceAdd, Nat.reduceMul, e2, e9, A.len, hl1, decide_false]
      refine Code.cond (t := false) (by simp only [↓wP, wS, Nat.reduceEqDiff, reduceIte, Nat.reduceLeDiff, and_self, cond_true, cond_false, Nat.reduceAdd, Nat.reduceMul]) (fun h => by cases h) (fun _ => Code.exit ?_)
      exact hq _
  | succ n ih =>
    intro i S s hn I hq
    obtain ⟨e, h2⟩ := s
    obtain ⟨e2, e7, e8, e9, inv, duo, hk, lt, lx⟩ := I
    simp only at e2 e7 e8 e9 duo hk
    have hl1 : (i : Int) ≤ (ds.length : Int) := by omega
    have h60 : (i : Int) ≤ 60 := by omega
    have hw2 : w64 ((i : Int) + 1) = i + 1 := w64_id (by omega) (by omega)
    refine Code.loop (Code.seq (Code.seq (Code.ops ?_)))
    simp only [s5_5, ↓wP, wS, Nat.reduceEqDiff, reduceIte, Nat.reduceLeDiff, and_self, cond_true, cond_false, Nat.reduceAdd, Nat.reduceMul, e2, e9, A.len, hl1, h60, decide_true]
    refine Code.cond (t := true) (by simp only [↓wP, wS, Nat.reduceEqDiff, reduceIte, Nat.reduceLeDiff, and_self, cond_true, cond_false, Nat.reduceAdd, Nat.reduceMul]) (fun _ => Code.skip ?_) (fun h => by cases h)
    have tell : ∀ (S' : LS) (e' : Env) (h3 : Hp), Inv (i + 1) S' → Duo h3 bt bx S' → K0 h h3 → e'.get 2 = some av → e'.get 7 = some (pt bt 0) → e'.get 8 = some (pt bx 0) → e'.get 9 = some (i64 i) →
        Code F G (.seq (.ops s5_8) (.seq (.draw s5_9) (.cond (.t 78) (.seq (.ops s5_10) (.ret)) (.skip)))) ⟨e', h3⟩ (fun fl s => fl = .next ∧ Code F G (.ops s5_11) s fun fl s => fl = .next ∧ Code F G (.loop b5_12) s Q) := by
      intro S' e' h3 I' D' k' q2 q7 q8 q9
      refine plays_tell TT hf (i := i) (by omega) q2 q7 q8 q9 I' D' k' lt lx fun e4 h4 k4 D4 w2 w7 w8 w9 => ⟨rfl, ?_⟩
      refine Code.ops ?_
      simp only [s5_11, ↓wP, wS, Nat.reduceEqDiff, reduceIte, Nat.reduceLeDiff, and_self, cond_true, cond_false, Nat.reduceAdd, Nat.reduceMul, w9, hw2]
      exact ⟨trivial, ih (i + 1) S' _ (by omega) ⟨by simp only [↓wP, wS, Nat.reduceEqDiff, reduceIte, Nat.reduceLeDiff, and_self, cond_true, cond_false, Nat.reduceAdd, Nat.reduceMul, w2], by simp only [↓wP, wS, Nat.reduceEqDiff, reduceIte, Nat.reduceLeDiff, and_self, cond_true, cond_false, Nat.reduceAdd, Nat.reduceMul, w7], by simp only [↓wP, wS, Nat.reduceEqDiff, reduceIte, Nat.reduceLeDiff, and_self, cond_true, cond_false, Nat.reduceAdd, Nat.reduceMul, w8], by simp only [↓wP, wS, Nat.reduceEqDiff, reduceIte, Nat.reduceLeDiff, and_self, cond_true, cond_false, Nat.reduceAdd, Nat.reduceMul]; rfl, I', D4, k4, lt, lx⟩ hq⟩
    refine Code.seq (Code.block (Code.seq (Code.seq (Code.ops ?_))))
    by_cases h0 : i = 0
    · subst h0
      have hz : decide ((0 : Int) < ((0 : Nat) : Int)) = false := rfl
      simp only [s5_6, ↓wP, wS, Nat.reduceEqDiff, reduceIte, Nat.reduceLeDiff, and_self, cond_true, cond_false, Nat.reduceAdd, Nat.reduceMul, e9, hz]
      refine Code.cond (t := false) (by simp only [↓wP, wS, Nat.reduceEqDiff, reduceIte, Nat.reduceLeDiff, and_self, cond_true, cond_false, Nat.reduceAdd, Nat.reduceMul]) (fun h => by cases h) (fun _ => Code.skip ?_)
      refine Code.mono (tell S _ h2 (inv.mono (by omega)) duo hk (by simp only [↓wP, wS, Nat.reduceEqDiff, reduceIte, Nat.reduceLeDiff, and_self, cond_true, cond_false, Nat.reduceAdd, Nat.reduceMul, e2]) (by simp only [↓wP, wS, Nat.reduceEqDiff, reduceIte, Nat.reduceLeDiff, and_self, cond_true, cond_false, Nat.reduceAdd, Nat.reduceMul, e7]) (by simp only [↓wP, wS, Nat.reduceEqDiff, reduceIte, Nat.reduceLeDiff, and_self, cond_true, cond_false, Nat.reduceAdd, Nat.reduceMul, e8]) (by simp only [↓wP, wS, Nat.reduceEqDiff, reduceIte, Nat.reduceLeDiff, and_self, cond_true, cond_false, Nat.reduceAdd, Nat.reduceMul, e9])) ?_
      intro fl s' ⟨hfl, hs⟩
      subst hfl
      exact hs.mono fun fl s ⟨hfl, hs⟩ => by subst hfl; exact hs
    · obtain ⟨j, rfl⟩ : ∃ j, i = j + 1 := ⟨i - 1, by omega⟩
      have hz : (0 : Int) < ((j + 1 : Nat) : Int) := by omega
      have hw1 : w64 (((j + 1 : Nat) : Int) - 1) = j := by rw [w64_id (by omega) (by omega)]; omega
      have hjl : j < ds.length := by omega
      obtain ⟨bd, q1, q2⟩ := (A.mono hk.old).elem (List.getElem?_eq_getElem hjl)
      generalize ds[j] = d at q2
      simp only [s5_6, ↓wP, wS, Nat.reduceEqDiff, reduceIte, Nat.reduceLeDiff, and_self, cond_true, cond_false, Nat.reduceAdd, Nat.reduceMul, e2, e7, e8, e9, hz, decide_true, hw1, q1, q2]
      refine do_call TT (hk.fzLt hf) duo inv (by omega) (by rw [hk.fz]; exact hf.not_mem lt) (by rw [hk.fz]; exact hf.not_mem lx) fun S' h3 I' D' k3 => ?_
      simp only [↓wP, wS, Nat.reduceEqDiff, reduceIte, Nat.reduceLeDiff, and_self, cond_true, cond_false, Nat.reduceAdd, Nat.reduceMul, Bool.not_true]
      refine Code.cond (t := false) (by simp only [↓wP, wS, Nat.reduceEqDiff, reduceIte, Nat.reduceLeDiff, and_self, cond_true, cond_false, Nat.reduceAdd, Nat.reduceMul]) (fun h => by cases h) (fun _ => Code.skip ?_)
      refine Code.mono (tell S' _ h3 I' D' (hk.andThen k3 (fun x hx hl => by omega)) (by simp only [↓wP, wS, Nat.reduceEqDiff, reduceIte, Nat.reduceLeDiff, and_self, cond_true, cond_false, Nat.reduceAdd, Nat.reduceMul, e2]) (by simp only [↓wP, wS, Nat.reduceEqDiff, reduceIte, Nat.reduceLeDiff, and_self, cond_true, cond_false, Nat.reduceAdd, Nat.reduceMul, e7]) (by simp only [↓wP, wS, Nat.reduceEqDiff, reduceIte, Nat.reduceLeDiff, and_self, cond_true, cond_false, Nat.reduceAdd, Nat.reduceMul, e8]) (by simp only [↓wP, wS, Nat.reduceEqDiff, reduceIte, Nat.reduceLeDiff, and_self, cond_true, cond_false, Nat.reduceAdd, Nat.reduceMul, e9])) ?_
      intro fl s' ⟨hfl, hs⟩
      subst hfl
      exact hs.mono fun fl s ⟨hfl, hs⟩ => by subst hfl; exact hs

theorem plays_call (TT : Tab F G) {h : Hp} (hf : FzLt h) {av : Value} {ds : List Deed} (A : ArgAt h av ds) {r c : Int} : Call F G 5 [i64 r, i64 c, av] h fun v _ => v = .bool true := by
  refine Call.enter (TT.g _ _ (by decide)) TT.f5 (Nat.le_of_ble_eq_true rfl) ?_
  simp only [c5, envOf]
  refine Code.seq (Code.ops ?_)
  simp only [s5_0, ↓wP, wS, Nat.reduceEqDiff, reduceIte, Nat.reduceLeDiff, and_self, cond_true, cond_false, Nat.reduceAdd, Nat.reduceMul]
  refine Code.seq (Code.ops ?_)
  simp only [s5_1, ↓wP, wS, Nat.reduceEqDiff, reduceIte, Nat.reduceLeDiff, and_self, cond_true, cond_false, Nat.reduceAdd, Nat.reduceMul]
  refine news TT hf fun bt h1 hb1 k1 hx => ?_
  simp only [↓wP, wS, Nat.reduceEqDiff, reduceIte, Nat.reduceLeDiff, and_self, cond_true, cond_false, Nat.reduceAdd, Nat.reduceMul]
  refine hx h1 _ (Old.refl _) (k1.fzLt hf) fun bx h2 hb2 k2 D => ?_
  have n1 := k1.next
  simp only [↓wP, wS, Nat.reduceEqDiff, reduceIte, Nat.reduceLeDiff, and_self, cond_true, cond_false, Nat.reduceAdd, Nat.reduceMul]
  refine Code.seq (Code.seq (Code.ops ?_))
  simp only [s5_2, ↓wP, wS, Nat.reduceEqDiff, reduceIte, Nat.reduceLeDiff, and_self, cond_true, cond_false, Nat.reduceAdd, Nat.reduceMul]
  refine Code.cond (t := false) (by simp only [↓wP, wS, Nat.reduceEqDiff, reduceIte, Nat.reduceLeDiff, and_self, cond_true, cond_false, Nat.reduceAdd, Nat.reduceMul]) (fun h => by cases h) (fun _ => Code.skip ?_)
  refine Code.seq (Code.seq (Code.ops ?_))
  simp only [s5_4, ↓wP, wS, Nat.reduceEqDiff, reduceIte, Nat.reduceLeDiff, and_self, cond_true, cond_false, Nat.reduceAdd, Nat.reduceMul]
  refine Code.block (plays_loop TT hf A (bt := bt) (bx := bx) (min ds.length 60 + 1) 0 _ _ (by omega) ⟨by simp only [↓wP, wS, Nat.reduceEqDiff, reduceIte, Nat.reduceLeDiff, and_self, cond_true, cond_false, Nat.reduceAdd, Nat.reduceMul], by simp only [↓wP, wS, Nat.reduceEqDiff, reduceIte, Nat.reduceLeDiff, and_self, cond_true, cond_false, Nat.reduceAdd, Nat.reduceMul], by simp only [↓wP, wS, Nat.reduceEqDiff, reduceIte, Nat.reduceLeDiff, and_self, cond_true, cond_false, Nat.reduceAdd, Nat.reduceMul], by simp only [↓wP, wS, Nat.reduceEqDiff, reduceIte, Nat.reduceLeDiff, and_self, cond_true, cond_false, Nat.reduceAdd, Nat.reduceMul]; rfl, Inv.new r c, D, k1.trans k2, hb1, by omega⟩ fun s' => ?_)
  simp only [if_true]
  obtain ⟨e, h3⟩ := s'
  refine Code.seq (Code.ops ?_)
  simp only [s5_13, ↓wP, wS, Nat.reduceEqDiff, reduceIte, Nat.reduceLeDiff, and_self, cond_true, cond_false, Nat.reduceAdd, Nat.reduceMul]
  refine Call.known TT.g14 ?_
  simp only [↓wP, wS, Nat.reduceEqDiff, reduceIte, Nat.reduceLeDiff, and_self, cond_true, cond_false, Nat.reduceAdd, Nat.reduceMul]
  refine Code.ret ?_
  simp only [resVs, resV, pack, ↓wP, wS, Nat.reduceEqDiff, reduceIte, Nat.reduceLeDiff, and_self, cond_true, cond_false, Nat.reduceAdd, Nat.reduceMul]
  exact ⟨trivial, _, rfl, rfl⟩
end
end Go.Eng
