/- The seat's functions in slim code; what a call of one of them does, from what the evaluator answers. -/
import Derived.Test.YtdafdampodbobaaEngP
import Derived.Test.YtdafdampodbobaaRows
import Derived.ProofKit
namespace Go.Proofs.Ytdafdampodbobaa
set_option linter.unusedSimpArgs false
set_option linter.unusedVariables false
open Go.ChangeShapes Go.WideShapes Go.ChangeAt Go.RowKit Go.Eng

noncomputable def tab (f : FuncId) : Option SFunc :=
  match Try.prog.funcs[f]? with
  | some fn => bif fn.name == "runtime.NumGoroutine" then none else slimF Try.prog fn
  | none => none

theorem tab_spec (f : FuncId) (sf : SFunc) (h : tab f = some sf) : ∃ fn, Try.prog.funcs[f]? = some fn ∧ slimF Try.prog fn = some sf ∧ fn.name ≠ "runtime.NumGoroutine" := by
  unfold tab at h
  split at h
  · rename_i fn hfn
    cases hc : fn.name == "runtime.NumGoroutine" with
    | true => rw [hc] at h; cases h
    | false =>
      rw [hc] at h
      exact ⟨fn, hfn, h, by simpa using hc⟩
  · cases h

theorem mixed : Try.prog.follows .mixedOrders = true := by kernel_rfl

/-- What the evaluator answers, the machine answers; of what was there nothing has turned. -/
theorem calls_below {G : FuncId → List Value → Option Value} (hG : KnownSound Try.prog G) {m : Nat} {f : FuncId} {l l' : List Value} {h h' : Hp} {v : Value} {W : World} (ρ : Rho) (hv : (ev tab G m).call f l h = some (v, h')) (hR : HRel (· < W.heap.size) W ρ h W) (hl : LRel ρ l l') (hc : isClosed v = true) :
    Calls Try.prog f l'.toArray W fun e W' => e = .returned v ∧ Below W.heap.size W W' := by
  refine ((ev_sound hG mixed tab_spec m).1.calls f l h v h' hv _ W ρ W l' hR hl).mono fun e W' ⟨ρ', v', he, h1, h2, h3, h4⟩ => ?_
  obtain rfl := closed_eq 4 _ _ hc h1
  exact ⟨he, h3.prot.os, h3.prot.tape, h3.prot.output, h3.prot.size, fun k hk => h3.prot.blk k hk⟩

/-- The empty start. -/
theorem rel_start (W : World) (n : Nat) : HRel (· < W.heap.size) W (fun _ => none) ⟨.leaf, n, []⟩ W :=
  ⟨⟨rfl, rfl, rfl, Nat.le_refl _, fun _ _ => rfl⟩, fun _ h => h, fun _ _ h => (by cases h), fun b _ => T.get_leaf b, fun _ _ _ _ _ _ h => (by cases h), fun _ _ _ _ _ _ _ _ _ _ _ _ h => (by cases h)⟩

/-- Nothing is known ahead. -/
def unknown : FuncId → List Value → Option Value := fun _ _ => none

theorem unknown_sound : KnownSound Try.prog unknown := fun _ _ _ h => by cases h

theorem awake_runs : ((ev tab unknown 1000).call 14 [] ⟨.leaf, 0, []⟩).map (·.1) = some (.bool true) := by kernel_rfl

theorem awake_any (W : World) : Calls Try.prog 14 #[] W fun e W' => e = .returned (.bool true) ∧ Below W.heap.size W W' := by
  have h := awake_runs
  cases hx : (ev tab unknown 1000).call 14 [] ⟨.leaf, 0, []⟩ with
  | none => rw [hx] at h; cases h
  | some x =>
    obtain ⟨v, h'⟩ := x
    rw [hx] at h
    cases h
    exact calls_below unknown_sound _ hx (rel_start W 0) .nil rfl

/-- The examples' call answers true, whatever the heap. -/
def known (f : FuncId) (l : List Value) : Option Value :=
  bif Nat.beq f 14 && l.isEmpty then some (.bool true) else none

theorem known_sound : KnownSound Try.prog known := by
  intro f l v h
  unfold known at h
  cases hc : Nat.beq f 14 && l.isEmpty with
  | false => rw [hc] at h; cases h
  | true =>
    rw [hc] at h
    cases h
    simp only [Bool.and_eq_true, beq_dec, decide_eq_true_eq, List.isEmpty_iff] at hc
    obtain ⟨rfl, rfl⟩ := hc
    refine ⟨rfl, ⟨Try.f14, ?_⟩, fun ρ l' w hl => ?_⟩
    · have hb : Try.f14.body.isSome = true := by kernel_rfl
      obtain ⟨c, hc⟩ := Option.isSome_iff_exists.1 hb
      have hn : (Try.f14.name == "runtime.NumGoroutine") = false := by kernel_rfl
      exact ⟨c, Try.func14, hc, by simpa using hn⟩

    · obtain rfl := hl.nil_inv
      exact (awake_any w).mono fun e w' ⟨he, hb⟩ => ⟨he, ⟨hb.os, hb.tape, hb.output⟩, hb.size, hb.block⟩

theorem Try.own : ownKnob Try.prog.godebug = none := by kernel_rfl
theorem Try.laidOut : laidOutB Try.prog = true := by kernel_rfl

/-- All arguments read as they did. -/
theorem below_trodAll {H : Type} {enc : TypeId × Value → H} {P : Program} (hl : laidOutB P = true) {W W' : World} (hb : Below W.heap.size W W') : ∀ (ts : List TypeId), (ts.all fun t => P.readableRec t && decide (t < P.types.size)) = true → ∀ (vs : List Value) (ds : List (DataW H)) (ps : List MemPlace), (∀ x ∈ ps, x.block < W.heap.size) →
    DataW.TrodAll enc P W 0 (fun _ => true) true ts vs ds ps → DataW.TrodAll enc P W' 0 (fun b => decide (b < W.heap.size)) true ts vs ds ps
  | [], _, vs, ds, ps, _, h => by
    obtain ⟨rfl, rfl, rfl⟩ := trodAll_nil h
    exact trodAll_mk0
  | t :: ts, ht, vs, ds, ps, hp, h => by
    obtain ⟨v, vs1, d, ds1, a, b, rfl, rfl, rfl, h1, h2⟩ := trodAll_cons h
    simp only [List.all_cons, Bool.and_eq_true, decide_eq_true_eq] at ht
    exact ⟨a, b, Below.trod hl ht.1.1 ht.1.2 h1 hb (fun x hx => hp x (by simp [hx])), below_trodAll hl hb ts (by simpa using ht.2) vs1 ds1 b (fun x hx => hp x (by simp [hx])) h2, rfl⟩

/-- Behind a law that answers true and turns nothing. -/
theorem post_true {H : Type} {enc : TypeId × Value → H} {P : Program} {f : Func} {s : ChangeSpec} {W W' : World} {args : Array Value} {ds gs : List (DataW H)} {before : List MemPlace} {t : TypeId}
    (hl : laidOutB P = true) (hts : (f.params.toList.all fun t => P.readableRec t && decide (t < P.types.size)) = true) (hvars : s.vars = []) (hres : f.resultTypes = #[t]) (ht : P.underlying t = some .bool)
    (hW : DataW.Whole enc P f.params.toList s.vars false W args.toList ds gs before) (hfn : s.fn H (ds ++ gs) = { results := [.lit (.bool true)], args := ds }) (hb : Below W.heap.size W W') :
    s.post enc P f false true false false W args (.bool true) W' := by
  have hW' := hW
  obtain ⟨p, q, hA, hV, rfl, hfz, hnd⟩ := hW
  rw [hvars] at hV
  obtain ⟨rfl, rfl⟩ := trodVars_none hV
  refine ⟨ds, [], p ++ [], [], p, [], hW', ?_, ?_, ?_, Below.frame hb _, fun hx => by cases hx⟩
  · rw [hfn, hres]
    exact trodAll_mk1 (shut_bool ht true)
  · rw [hfn]
    exact below_trodAll hl hb _ hts _ _ _ (fun x hx => hW'.lt x (by simp [hx])) hA
  · rw [hfn, hvars]
    exact rfl
end Go.Proofs.Ytdafdampodbobaa
