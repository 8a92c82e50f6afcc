/- What share comes to. -/
import Derived.Test.YtdafdampodbobaaSeatCode
namespace Go.Eng
set_option linter.unusedSimpArgs false
set_option linter.unusedVariables false
section
variable {F : FuncId → Option SFunc} {G : FuncId → List Value → Option Value}

def shareW (room k i : Int) : Int :=
  w64 (w64 (w64 (room.tdiv k) * i) + (if (if room.tmod k > 0 then room.tmod k else 0) < i then (if room.tmod k > 0 then room.tmod k else 0) else i))

theorem share_call (TT : Tab F G) (room k i : Int) (hk : k ≠ 0) (h : Hp) (R : Value → Hp → Prop) (hr : R (i64 (shareW room k i)) h) : Call F G 65 [i64 room, i64 k, i64 i] h R := by
  refine Call.enter (TT.g _ _ (by decide)) TT.f65 (Nat.le_of_ble_eq_true rfl) ?_
  simp only [c65, envOf]
  refine Code.seq (Code.ops ?_)
  simp only [s65_0, ↓wP, wS, Nat.reduceEqDiff, reduceIte, Nat.reduceLeDiff, and_self, cond_true, cond_false, Nat.reduceAdd, Nat.reduceMul]
  refine Code.seq (Code.draw ?_)
  simp only [s65_1, ↓wP, wS, Nat.reduceEqDiff, reduceIte, Nat.reduceLeDiff, and_self, cond_true, cond_false, Nat.reduceAdd, Nat.reduceMul, ↓Draw.cons, dS, decide_true, decide_false, bin_quo hk, bin_rem hk]
  refine Code.ret ?_
  simp only [resVs, resV, pack, ↓wP, wS, Nat.reduceEqDiff, reduceIte, Nat.reduceLeDiff, and_self, cond_true, cond_false, Nat.reduceAdd, Nat.reduceMul]
  exact ⟨trivial, _, rfl, hr⟩
end
end Go.Eng
