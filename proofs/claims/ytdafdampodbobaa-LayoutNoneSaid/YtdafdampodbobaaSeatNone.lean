/- The law of windows that are none. -/
import Derived.Test.YtdafdampodbobaaSeatTab
namespace Go.Proofs.Ytdafdampodbobaa
open Go.ChangeShapes Go.WideShapes Go.ChangeAt Go.RowKit Go.Eng

theorem none_runs (a : Int) (s : Bool) : ((ev tab 1000).call 8 [.int .i64 a, .bool s] ⟨.leaf, 0, []⟩).map (·.1) = some (.bool true) := by kernel_rfl

theorem none_any (a : Int) (s : Bool) (W : World) : Calls Try.prog 8 #[.int .i64 a, .bool s] W fun e W' => e = .returned (.bool true) ∧ Below W.heap.size W W' := by
  have h := none_runs a s
  cases hx : (ev tab 1000).call 8 [.int .i64 a, .bool s] ⟨.leaf, 0, []⟩ with
  | none => rw [hx] at h; cases h
  | some x =>
    obtain ⟨v, h'⟩ := x
    rw [hx] at h
    cases h
    exact calls_below _ hx (rel_start W 0) (LRel.cons (.int _ _) (LRel.cons (.bool _) .nil)) rfl

theorem none_lifted (os : Os) (started : os.Started) (H : Type) (enc : TypeId × Value → H) :
    ReturnsInHanded {} Try.checked os 8 .any (Rows.layoutNoneSpec.pre6 enc Try.prog Try.f8 Rows.layoutNoneRow.domain false) (Rows.layoutNoneSpec.post enc Try.prog Try.f8 false true false false) := by
  refine returnsInHanded_of_change (C := Try.checked) Try.own started (by kernel_rfl) Try.func8
    (ChangeSpec.witness6 (enc := enc) (C := Try.checked) false ⟨#[], #[.int .i64 0, .bool false], []⟩ 8 (by kernel_rfl) (by kernel_rfl) (by kernel_rfl) (by kernel_rfl)) ?_
  intro W base args ds gs before hval0 hW hcnd _
  have hval : ∀ (j : Nat) t v, Try.f8.params[j]? = some t → args[j]? = some v → Value.okWide Try.prog W .any base t v := hval0
  have hW' := hW
  obtain ⟨p, q, hA0, hV, rfl, hfz, hnd⟩ := hW
  have hA : DataW.TrodAll enc Try.prog W 0 (fun _ => true) true Try.f8.params.toList args.toList ds p := hA0
  rw [Try.params8] at hA hval
  obtain ⟨v0, v1, d0, d1, p0, p1, rfl, rfl, rfl, h0, h1⟩ := trodAll_two hA
  obtain ⟨rfl, rfl⟩ := trodVars_none hV
  obtain ⟨a, rfl, rfl, rfl, wa⟩ := open_int Try.underlying3 (hval 0 3 v0 rfl rfl) h0
  obtain ⟨s, rfl, rfl, rfl⟩ := open_bool Try.underlying4 (hval 1 4 v1 rfl rfl) h1
  refine (none_any a s W).mono fun e W' ⟨he, hb⟩ => ?_
  subst he
  exact ⟨_, rfl, post_true Try.laidOut (by kernel_rfl) rfl (by kernel_rfl) Try.underlying4 hW' rfl hb⟩

theorem layout_none : Rows.LayoutNoneSaid :=
  OpenClaim.holds_of_wide 8 Try.f8 rfl rfl rfl rfl rfl rfl rfl ⟨rfl, rfl, rfl, rfl, rfl⟩ rfl rfl rfl rfl rfl (by kernel_rfl) Try.func8 (by kernel_rfl)
    (of_decide_eq_true (by kernel_rfl)) (by unfold Func.isWrapper; first | (rw [if_pos (by decide +kernel)]; kernel_rfl) | (rw [if_neg (by decide +kernel)]; exact ⟨rfl, rfl⟩))
    (fun os started H enc _ => none_lifted os started H enc)
end Go.Proofs.Ytdafdampodbobaa
