/- The literals of SeatCode are the program's. -/
import Derived.Test.YtdafdampodbobaaSeatCode
import Derived.Test.YtdafdampodbobaaSeatTab
namespace Go.Proofs.Ytdafdampodbobaa
set_option linter.unusedSimpArgs false
set_option linter.unusedVariables false
open Go.Eng
theorem tabs : Tab tab known where
  f3 := by kernel_rfl
  f4 := by kernel_rfl
  f5 := by kernel_rfl
  f6 := by kernel_rfl
  f7 := by kernel_rfl
  f9 := by kernel_rfl
  f10 := by kernel_rfl
  f11 := by kernel_rfl
  f12 := by kernel_rfl
  f13 := by kernel_rfl
  f15 := by kernel_rfl
  f16 := by kernel_rfl
  f17 := by kernel_rfl
  f18 := by kernel_rfl
  f19 := by kernel_rfl
  f20 := by kernel_rfl
  f21 := by kernel_rfl
  f22 := by kernel_rfl
  f23 := by kernel_rfl
  f24 := by kernel_rfl
  f25 := by kernel_rfl
  f26 := by kernel_rfl
  f27 := by kernel_rfl
  f28 := by kernel_rfl
  f29 := by kernel_rfl
  f30 := by kernel_rfl
  f31 := by kernel_rfl
  f32 := by kernel_rfl
  f33 := by kernel_rfl
  f34 := by kernel_rfl
  f35 := by kernel_rfl
  f36 := by kernel_rfl
  f37 := by kernel_rfl
  f38 := by kernel_rfl
  f39 := by kernel_rfl
  f40 := by kernel_rfl
  f41 := by kernel_rfl
  f42 := by kernel_rfl
  f43 := by kernel_rfl
  f44 := by kernel_rfl
  f45 := by kernel_rfl
  f46 := by kernel_rfl
  f47 := by kernel_rfl
  f48 := by kernel_rfl
  f64 := by kernel_rfl
  f65 := by kernel_rfl
  f66 := by kernel_rfl
  g f l h := by
    have hb : Nat.beq f 14 = false := by rw [beq_dec, decide_eq_false h]
    simp only [known, hb, Bool.false_and, cond_false]
  g14 := rfl
end Go.Proofs.Ytdafdampodbobaa
