/- Go and Wins of the program's tree. -/
import Derived.Test.YtdafdampodbobaaSeatClose
namespace Go.Eng
set_option linter.unusedSimpArgs false
set_option linter.unusedVariables false

def goI (n : Nat) (at' by' : Int) : Int :=
  if (w64 (at' + by'.tmod n)).tmod n < 0 then w64 ((w64 (at' + by'.tmod n)).tmod n + n) else (w64 (at' + by'.tmod n)).tmod n
def goS (S : LS) (by' : Int) : LS := { S with here := idAt (area S) (goI (area S).length (idxId (area S) S.here) by').toNat }

theorem tmod_range (a : Int) (n : Nat) (hn : 0 < n) : -(n : Int) < a.tmod n ∧ a.tmod n < n := by
  have h1 : (a.tmod n).natAbs < n := by
    rw [Int.natAbs_tmod]
    simpa using Nat.mod_lt _ hn
  omega

theorem goI_range (n : Nat) (at' by' : Int) (hn : 0 < n) (hn2 : n ≤ 1000000) : 0 ≤ goI n at' by' ∧ goI n at' by' < n := by
  obtain ⟨h1, h2⟩ := tmod_range (w64 (at' + by'.tmod n)) n hn
  unfold goI
  split
  · rw [w64_id (by omega) (by omega)]
    omega
  · omega

theorem rdT_id {t : T AObj} {b : Nat} {l : List Wn} {own : Bool} {i : Nat} (hb : t.get b = some (.cells (wcells l) 5 own)) (hi : i < l.length) : rdT t b (i * 5) = some (i64 (idAt l i)) := by
  have hw := List.getElem?_eq_getElem hi
  obtain ⟨q1, q2⟩ := wcells_at _ _ _ hw
  rw [rdT_of hb]
  have := congrArg (·[0]?) q1
  simp only [idAt, hw]
  simpa [Wn.cells] using this

section
variable {F : FuncId → Option SFunc} {G : FuncId → List Value → Option Value}

theorem go_call (TT : Tab F G) {h : Hp} (hf : FzLt h) {Z : Nat → Prop} {bt : Nat} {S : LS} (a : LAt Z h bt S) (ok : LOk S) {by' : Int} (hn : bt ∉ h.fz) {R : Value → Hp → Prop}
    (hr : ∀ v h', Kp (· = bt) h h' → LAt Z h' bt (goS S by') → R v h') : Call F G 16 [pt bt 0, i64 by'] h R := by
  have hlen : 0 < (area S).length := by rw [area_length]; exact ids_pos _ ok.good
  have hlen2 : (area S).length ≤ 1000 := by rw [area_length]; exact ok.small
  have hn0 : ((area S).length : Int) ≠ 0 := by omega
  obtain ⟨r1, r2⟩ := goI_range (area S).length (idxId (area S) S.here) by' hlen (by omega)
  refine Call.enter (TT.g _ _ (by decide)) TT.f16 (Nat.le_of_ble_eq_true rfl) ?_
  simp only [c16, envOf]
  refine Code.seq (Code.seq (Code.ops ?_))
  simp only [s16_0, ↓wP, wS, Nat.reduceEqDiff, reduceIte, Nat.reduceLeDiff, and_self, cond_true, cond_false, Nat.reduceAdd, Nat.reduceMul]
  refine Code.cond (t := false) (by simp only [↓wP, wS, Nat.reduceEqDiff, reduceIte, Nat.reduceLeDiff, and_self, cond_true, cond_false, Nat.reduceAdd, Nat.reduceMul]) (fun hx => by cases hx) (fun _ => Code.skip ?_)
  refine Code.seq (Code.ops ?_)
  simp only [s16_1, ↓wP, wS, Nat.reduceEqDiff, reduceIte, Nat.reduceLeDiff, and_self, cond_true, cond_false, Nat.reduceAdd, Nat.reduceMul]
  refine places_call TT hf a ok fun r h1 k1 hw => ?_
  obtain ⟨rb, rfl, w1, w2, w3⟩ := hw
  simp only [↓wP, wS, Nat.reduceEqDiff, reduceIte, Nat.reduceLeDiff, and_self, cond_true, cond_false, Nat.reduceAdd, Nat.reduceMul]
  have a1 := a.mono k1.old
  have a1' := a1
  obtain ⟨lt, nz, rv, hg, hroot⟩ := a1
  refine Code.seq (Code.draw ?_)
  simp only [s16_2, ↓wP, wS, Nat.reduceEqDiff, reduceIte, Nat.reduceLeDiff, and_self, cond_true, cond_false, Nat.reduceAdd, Nat.reduceMul, ↓Draw.cons, dS, decide_true, decide_false, rdT_of hg, bin_rem hn0]
  refine index_call TT (h := ⟨h1.t, h1.next, h1.fz⟩) (k1.fzLt hf) a1' ok fun h2 k2 => ?_
  simp only [↓wP, wS, Nat.reduceEqDiff, reduceIte, Nat.reduceLeDiff, and_self, cond_true, cond_false, Nat.reduceAdd, Nat.reduceMul, ↓Draw.cons, dS, decide_true, decide_false, bin_rem hn0]
  refine Code.seq (Code.seq (Code.ops ?_))
  simp only [s16_3, ↓wP, wS, Nat.reduceEqDiff, reduceIte, Nat.reduceLeDiff, and_self, cond_true, cond_false, Nat.reduceAdd, Nat.reduceMul]
  have hg2 := k2.keep lt (fun x => x) hg
  have w32 := k2.keep (b := rb) w2 (fun x => x) w3
  have fin : ∀ (e : Env), e.get 0 = some (pt bt 0) → e.get 4 = some (sl rb 0 (area S).length 0) → e.get 5 = some (i64 (goI (area S).length (idxId (area S) S.here) by')) →
      Code F G (.ops s16_5) ⟨e, ⟨h2.t, h2.next, h1.fz⟩⟩ fun fl s => (match fl with | .exit _ => False | _ => True) ∧ ∃ vs, resVs s.e s.h [] = some vs ∧ R (pack vs) s.h := by
    intro e q0 q4 q5
    refine Code.ops ?_
    have hrd := rdT_id (i := (goI (area S).length (idxId (area S) S.here) by').toNat) w32 (by omega)
    simp only [s16_5, ↓wP, wS, Nat.reduceEqDiff, reduceIte, Nat.reduceLeDiff, and_self, cond_true, cond_false, Nat.reduceAdd, Nat.reduceMul, q0, q4, q5, r1, r2, and_self, if_true, Nat.add_zero, hrd]
    refine StoreQ.one (h := ⟨h2.t, h2.next, h1.fz⟩) rfl hg2 (by simp) (by show bt ∉ h1.fz; rw [k1.fz]; exact hn) fun h3 n3 g3 k3 => ?_
    simp only [↓wP, wS, Nat.reduceEqDiff, reduceIte, Nat.reduceLeDiff, and_self, cond_true, cond_false, Nat.reduceAdd, Nat.reduceMul] at g3 ⊢
    have k13 : Kp (· = bt) h1 h3 := ⟨by rw [n3]; exact k2.next, fun b hb hx => (k3.get b (Nat.lt_of_lt_of_le hb k2.next) hx).trans (k2.get b hb (fun x => x)), k3.fz⟩
    refine ⟨trivial, _, rfl, hr _ _ ((k1.weaken (fun _ _ hx => hx.elim)).trans k13) ⟨Nat.lt_of_lt_of_le lt k13.next, nz, rv, g3, hroot.keep k13 (fun b hb => by rw [hb]; exact nz)⟩⟩
  by_cases hneg : (w64 (idxId (area S) S.here + by'.tmod (area S).length)).tmod (area S).length < 0
  · have hgo : goI (area S).length (idxId (area S) S.here) by' = w64 ((w64 (idxId (area S) S.here + by'.tmod (area S).length)).tmod (area S).length + (area S).length) := by simp only [goI, hneg, if_true]
    refine Code.cond (t := true) (by simp only [↓wP, wS, Nat.reduceEqDiff, reduceIte, Nat.reduceLeDiff, and_self, cond_true, cond_false, Nat.reduceAdd, Nat.reduceMul, hneg, decide_true]) (fun _ => Code.ops ?_) (fun h => by cases h)
    simp only [s16_4, ↓wP, wS, Nat.reduceEqDiff, reduceIte, Nat.reduceLeDiff, and_self, cond_true, cond_false, Nat.reduceAdd, Nat.reduceMul]
    refine fin _ (by simp only [↓wP, wS, Nat.reduceEqDiff, reduceIte, Nat.reduceLeDiff, and_self, cond_true, cond_false, Nat.reduceAdd, Nat.reduceMul]) (by simp only [↓wP, wS, Nat.reduceEqDiff, reduceIte, Nat.reduceLeDiff, and_self, cond_true, cond_false, Nat.reduceAdd, Nat.reduceMul]) (by simp only [↓wP, wS, Nat.reduceEqDiff, reduceIte, Nat.reduceLeDiff, and_self, cond_true, cond_false, Nat.reduceAdd, Nat.reduceMul, hgo])
  · have hgo : goI (area S).length (idxId (area S) S.here) by' = (w64 (idxId (area S) S.here + by'.tmod (area S).length)).tmod (area S).length := by simp only [goI, hneg, if_false]
    refine Code.cond (t := false) (by simp only [↓wP, wS, Nat.reduceEqDiff, reduceIte, Nat.reduceLeDiff, and_self, cond_true, cond_false, Nat.reduceAdd, Nat.reduceMul, hneg, decide_false]) (fun h => by cases h) (fun _ => Code.skip ?_)
    refine fin _ (by simp only [↓wP, wS, Nat.reduceEqDiff, reduceIte, Nat.reduceLeDiff, and_self, cond_true, cond_false, Nat.reduceAdd, Nat.reduceMul]) (by simp only [↓wP, wS, Nat.reduceEqDiff, reduceIte, Nat.reduceLeDiff, and_self, cond_true, cond_false, Nat.reduceAdd, Nat.reduceMul]) (by simp only [↓wP, wS, Nat.reduceEqDiff, reduceIte, Nat.reduceLeDiff, and_self, cond_true, cond_false, Nat.reduceAdd, Nat.reduceMul, hgo])
end
end Go.Eng
