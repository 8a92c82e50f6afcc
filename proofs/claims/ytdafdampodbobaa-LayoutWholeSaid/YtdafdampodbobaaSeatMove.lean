/- Split, Close, Go, Wins of the program's tree. -/
import Derived.Test.YtdafdampodbobaaSeatWith
namespace Go.Eng
set_option linter.unusedSimpArgs false
set_option linter.unusedVariables false

/-- What is split: the window at hand, and a new one. -/
def pairG (S : LS) (side : Bool) : Tr := .grp side [.win S.here, .win (w64 (S.last + 1))]
def splitTree (S : LS) (side : Bool) : List Tr := wth S.here [pairG S side] S.tree
def setTree (S : LS) (t : Tr) : LS := { S with tree := t }
def splitOk (S : LS) (t : Tr) : Bool := !(decide (16 < ((area (setTree S t)).length : Int)) || !fitsL (area (setTree S t)))
def splitS (S : LS) (side : Bool) : LS :=
  match splitTree S side with
  | [] => S
  | t :: _ => if splitOk S t = true then { S with tree := t, last := w64 (S.last + 1), here := w64 (S.last + 1) } else S
def splitA (S : LS) (side : Bool) : Value :=
  match splitTree S side with
  | [] => undef
  | t :: _ => if splitOk S t = true then .tuple #[i64 (w64 (S.last + 1)), i64 0] else .tuple #[i64 0, i64 33]

theorem K0.old' {h h' : Hp} {f : List Nat} (k : K0 ⟨h.t, h.next, f⟩ h') : Old h h' := ⟨k.next, fun b hb => k.get b hb (fun x => x)⟩

section
variable {F : FuncId → Option SFunc} {G : FuncId → List Value → Option Value}

theorem split_call (TT : Tab F G) {h : Hp} (hf : FzLt h) {Z : Nat → Prop} {bt : Nat} {S : LS} (a : LAt Z h bt S) (ok : LOk S) (hsm : (ids S.tree).length ≤ 500) {side : Bool} (hin : splitTree S side ≠ []) (hn : bt ∉ h.fz) (hz : ∀ b, h.next ≤ b → Z b) {R : Value → Hp → Prop}
    (hr : ∀ h', Kp (· = bt) h h' → LAt Z h' bt (splitS S side) → R (splitA S side) h') : Call F G 12 [pt bt 0, .bool side] h R := by
  obtain ⟨lt, nz, rv, hg, hroot⟩ := a
  refine Call.enter (TT.g _ _ (by decide)) TT.f12 (Nat.le_of_ble_eq_true rfl) ?_
  simp only [c12, envOf]
  refine Code.seq (Code.ops ?_)
  simp only [s12_0, ↓wP, wS, Nat.reduceEqDiff, reduceIte, Nat.reduceLeDiff, and_self, cond_true, cond_false, Nat.reduceAdd, Nat.reduceMul]
  refine Code.seq (Code.seq (Code.ops ?_))
  simp only [s12_1, ↓wP, wS, Nat.reduceEqDiff, reduceIte, Nat.reduceLeDiff, and_self, cond_true, cond_false, Nat.reduceAdd, Nat.reduceMul]
  refine Code.cond (t := false) (by simp only [↓wP, wS, Nat.reduceEqDiff, reduceIte, Nat.reduceLeDiff, and_self, cond_true, cond_false, Nat.reduceAdd, Nat.reduceMul]) (fun hx => by cases hx) (fun _ => Code.skip ?_)
  refine Code.seq (Code.ops ?_)
  simp only [s12_3, ↓wP, wS, Nat.reduceEqDiff, reduceIte, Nat.reduceLeDiff, and_self, cond_true, cond_false, Nat.reduceAdd, Nat.reduceMul, rdT_of hg]
  refine Code.seq (Code.draw ?_)
  simp only [s12_4, ↓wP, wS, Nat.reduceEqDiff, reduceIte, Nat.reduceLeDiff, and_self, cond_true, cond_false, Nat.reduceAdd, Nat.reduceMul, ↓Draw.cons, dS, decide_true, decide_false, rdT_of hg, fzStep_load]
  refine NewQ.intro fun p1 h1 e1 n1 g1 k1 => ?_
  have o1 := k1.old'
  simp only at e1 n1
  have hg1 := (o1.get bt lt).trans hg
  simp only [↓wP, wS, Nat.reduceEqDiff, reduceIte, Nat.reduceLeDiff, and_self, cond_true, cond_false, Nat.reduceAdd, Nat.reduceMul, ↓Draw.cons, dS, decide_true, decide_false, rdT_of hg1, fzStep_load]
  refine NewQ.intro fun p2 h2 e2 n2 g2 k2 => ?_
  have o2 := k2.old'
  simp only at e2 n2
  simp only [↓wP, wS, Nat.reduceEqDiff, reduceIte, Nat.reduceLeDiff, and_self, cond_true, cond_false, Nat.reduceAdd, Nat.reduceMul, ↓Draw.cons, dS, decide_true, decide_false, fzStep_load]
  refine NewQ.intro fun pk h3 e3 n3 g3 k3 => ?_
  have o3 := k3.old'
  simp only at e3 n3
  simp only [↓wP, wS, Nat.reduceEqDiff, reduceIte, Nat.reduceLeDiff, and_self, cond_true, cond_false, Nat.reduceAdd, Nat.reduceMul, ↓Draw.cons, dS, decide_true, decide_false, fzStep_load]
  refine NewQ.intro fun pg h4 e4 n4 g4 k4 => ?_
  have o4 := k4.old'
  simp only at e4 n4
  simp only [↓wP, wS, Nat.reduceEqDiff, reduceIte, Nat.reduceLeDiff, and_self, cond_true, cond_false, Nat.reduceAdd, Nat.reduceMul, ↓Draw.cons, dS, decide_true, decide_false, fzStep_load]
  refine NewQ.intro fun pm h5 e5 n5 g5 k5 => ?_
  have o5 := k5.old'
  simp only at e5 n5
  simp only [↓wP, wS, Nat.reduceEqDiff, reduceIte, Nat.reduceLeDiff, and_self, cond_true, cond_false, Nat.reduceAdd, Nat.reduceMul, ↓Draw.cons, dS, decide_true, decide_false, fzStep_load]
  have o05 := (((o1.trans o2).trans o3).trans o4).trans o5
  have hg5 := (o05.get bt lt).trans hg
  have G1 := (((o2.trans o3).trans o4).trans o5).get p1 (by omega) |>.trans g1
  have G2 := ((o3.trans o4).trans o5).get p2 (by omega) |>.trans g2
  have G3 := (o4.trans o5).get pk (by omega) |>.trans g3
  have G4 := o5.get pg (by omega) |>.trans g4
  have ZZ : ∀ b, b < h5.next → Z b → (fun b => Z b ∧ b < h5.next) b := fun b hb hz => ⟨hz, hb⟩
  have T1 : TAt (fun b => Z b ∧ b < h5.next) h5 (.iface 61 (pt p1 0)) (.win S.here) := .win p1 _ _ _ (by omega) ⟨hz p1 (by omega), by omega⟩ G1
  have T2 : TAt (fun b => Z b ∧ b < h5.next) h5 (.iface 61 (pt p2 0)) (.win (w64 (S.last + 1))) := .win p2 _ _ _ (by omega) ⟨hz p2 (by omega), by omega⟩ G2
  have T4 : TAt (fun b => Z b ∧ b < h5.next) h5 (.iface 60 (pt pg 0)) (pairG S side) := by
    refine .grp pg pk side _ _ _ _ [.iface 61 (pt p1 0), .iface 61 (pt p2 0)] _ (by omega) ⟨hz pg (by omega), by omega⟩ G4 (by omega) ⟨hz pk (by omega), by omega⟩ G3 rfl fun i v t hv ht => ?_
    match i with
    | 0 => simp at hv ht; subst hv; subst ht; exact T1
    | 1 => simp at hv ht; subst hv; subst ht; exact T2
    | i + 2 => simp at hv
  have T5 : TLs (fun b => Z b ∧ b < h5.next) h5 (sl pm 0 1 0) [pairG S side] := .inr ⟨pm, [.iface 60 (pt pg 0)], 1, true, rfl, by simp, by omega, ⟨hz pm (by omega), by omega⟩, g5, Each.single T4⟩
  have hby : Goods [pairG S side] := by simp [Goods, Good, pairG]
  have hby2 : (idss [pairG S side]).length ≤ 2 := by simp [idss, ids, pairG]
  have mv : ∀ {v : Value} {t : Tr} {l : List Nat}, TAt (fun b => Z b ∧ b < h5.next) h5 v t → TAt (fun b => Z b ∧ b < h5.next) ⟨h5.t, h5.next, l⟩ v t := fun {v t l} ht => TAt.move (h := h5) (h' := ⟨h5.t, h5.next, l⟩) (Nat.le_refl _) (fun _ _ _ => rfl) (fun _ _ hz => hz) ht
  have w := withs_all TT (h0 := ⟨h5.t, h5.next, bt :: bt :: h.fz⟩) (v := rv) (id := S.here) (fun b hb => hb.2) hby hby2 (TLs.move (h := h5) (h' := ⟨h5.t, h5.next, bt :: bt :: h.fz⟩) (Nat.le_refl _) (fun _ _ _ => rfl) (fun _ _ hz => hz) T5)
    (mv ((hroot.mono o05).imp ZZ)) ok.good ok.small
  have htl : (idss (splitTree S side)).length ≤ 1000 := by have := wth_len S.here [pairG S side] hby2 S.tree; unfold splitTree; omega
  have htg : Goods (splitTree S side) := wth_good S.here _ hby S.tree ok.good
  refine w _ _ (Old.refl _) (fun b hb => ?_) fun r h6 k6 hr6 => ?_
  · have := o05.next
    simp only [List.mem_cons] at hb ⊢
    rcases hb with rfl | rfl | hb
    · omega
    · omega
    · have := hf b hb; omega
  simp only [↓wP, wS, Nat.reduceEqDiff, reduceIte, Nat.reduceLeDiff, and_self, cond_true, cond_false, Nat.reduceAdd, Nat.reduceMul, ↓Draw.cons, dS, decide_true, decide_false]
  have o6 := k6.old'
  have o06 := o05.trans o6
  change TLs _ h6 r (splitTree S side) at hr6
  cases hst : splitTree S side with
  | nil => exact absurd hst hin
  | cons t0 ts =>
  rw [hst] at hr6 htl htg
  rcases hr6 with ⟨hx, _⟩ | ⟨rb, rvs, rsz, rown, rfl, rp, rlt, rz, rg, rl, re⟩
  · cases hx
  cases rvs with
  | nil => cases rp
  | cons v0 rvs =>
  have hv0 := re 0 v0 t0 rfl rfl
  have hp0 : (0 : Int) < ((rvs.length + 1 : Nat) : Int) := by omega
  simp only [↓wP, wS, Nat.reduceEqDiff, reduceIte, Nat.reduceLeDiff, and_self, cond_true, cond_false, Nat.reduceAdd, Nat.reduceMul, ↓Draw.cons, dS, decide_true, decide_false, rdT_of rg, Int.le_refl, hp0, and_self, if_true, Int.toNat_zero, Nat.zero_mul]
  have hv0c : oneCell v0 = true := hv0.one
  have hg6 := (o06.get bt lt).trans hg
  refine StoreQ.one hv0c (h := ⟨h6.t, h6.next, h.fz⟩) hg6 (by simp) hn fun h7 n7 g7 k7 => ?_
  simp only [↓wP, wS, Nat.reduceEqDiff, reduceIte, Nat.reduceLeDiff, and_self, cond_true, cond_false, Nat.reduceAdd, Nat.reduceMul, ↓Draw.cons, dS, decide_true, decide_false] at g7 n7 ⊢
  have nxt := o06.next
  have k07 : Kp (· = bt) h ⟨h7.t, h7.next, h.fz⟩ := ⟨by simp only; omega, fun b hb hx => (k7.get b (by simp only; omega) hx).trans (o06.get b hb), rfl⟩
  have zlow : ∀ b, b < h6.next → (OrNew (fun b => Z b ∧ b < h5.next) h5.next) b → Z b := fun b _ hz' => by
    rcases hz' with hz' | hz'
    · exact hz'.1
    · exact hz b (by have := o05.next; omega)
  have L7 : LAt Z ⟨h7.t, h7.next, h.fz⟩ bt (setTree S t0) := by
    refine ⟨show bt < h7.next by omega, nz, v0, g7, ?_⟩
    refine TAt.move (h := h6) (h' := ⟨h7.t, h7.next, h.fz⟩) (show h6.next ≤ h7.next by omega) (fun b hb hz' => k7.get b hb (fun hx => ?_)) zlow hv0
    subst hx
    exact nz (zlow b hb hz')
  rw [Goods] at htg
  rw [idss, List.length_append] at htl
  have ok7 : LOk (setTree S t0) := ⟨htg.1, by show (ids t0).length ≤ 1000; omega⟩
  have hf7 : FzLt ⟨h7.t, h7.next, h.fz⟩ := k07.fzLt hf
  have hsS : splitS S side = if splitOk S t0 = true then { S with tree := t0, last := w64 (S.last + 1), here := w64 (S.last + 1) } else S := by simp only [splitS, hst]
  have hsA : splitA S side = if splitOk S t0 = true then .tuple #[i64 (w64 (S.last + 1)), i64 0] else .tuple #[i64 0, i64 33] := by simp only [splitA, hst]
  rw [hsS, hsA] at hr
  -- the way back, the way on
  have back : splitOk S t0 = false → ∀ (e8 : Env) (h8 : Hp), K0 ⟨h7.t, h7.next, h.fz⟩ h8 → e8.get 0 = some (pt bt 0) → e8.get 6 = some rv →
      Code F G (.seq (.ops s12_6) (.seq (.ops s12_7) .ret)) ⟨e8, h8⟩ fun fl s => fl = .ret ∧ ∃ vs, resVs s.e s.h [.tmp 4, .tmp 5] = some vs ∧ R (pack vs) s.h := by
    intro hno e8 h8 k8 q0 q6
    refine Code.seq (Code.ops ?_)
    simp only [s12_6, ↓wP, wS, Nat.reduceEqDiff, reduceIte, Nat.reduceLeDiff, and_self, cond_true, cond_false, Nat.reduceAdd, Nat.reduceMul, q0, q6]
    refine StoreQ.one hroot.one (k8.keep (by simp only; omega) (fun x => x) g7) (by simp) (by rw [k8.fz]; exact hn) fun h9 n9 g9 k9 => ?_
    simp only [↓wP, wS, Nat.reduceEqDiff, reduceIte, Nat.reduceLeDiff, and_self, cond_true, cond_false, Nat.reduceAdd, Nat.reduceMul] at g9 ⊢
    refine Code.seq (Code.ops ?_)
    simp only [s12_7, ↓wP, wS, Nat.reduceEqDiff, reduceIte, Nat.reduceLeDiff, and_self, cond_true, cond_false, Nat.reduceAdd, Nat.reduceMul]
    refine Code.ret ?_
    simp only [resVs, resV, pack, ↓wP, wS, Nat.reduceEqDiff, reduceIte, Nat.reduceLeDiff, and_self, cond_true, cond_false, Nat.reduceAdd, Nat.reduceMul]
    simp only [hno, Bool.false_eq_true, if_false] at hr
    have k09 : Kp (· = bt) h h9 := (k07.trans (k8.weaken (fun _ _ hx => hx.elim))).trans k9
    exact ⟨trivial, _, rfl, hr _ k09 ⟨Nat.lt_of_lt_of_le lt k09.next, nz, rv, g9, hroot.keep k09 (fun b hb => by rw [hb]; exact nz)⟩⟩
  have on : splitOk S t0 = true → ∀ (e8 : Env) (h8 : Hp), K0 ⟨h7.t, h7.next, h.fz⟩ h8 → e8.get 0 = some (pt bt 0) →
      Code F G (.seq (.ops s12_8) (.seq (.ops s12_9) (.seq (.ops s12_10) .ret))) ⟨e8, h8⟩ fun fl s => (match fl with | .exit _ => False | _ => True) ∧ ∃ vs, resVs s.e s.h [.tmp 4, .tmp 5] = some vs ∧ R (pack vs) s.h := by
    intro hyes e8 h8 k8 q0
    have L8 := L7.mono k8.old
    have g8 := k8.keep (by simp only; omega) (fun x => x) g7
    refine Code.seq (Code.ops ?_)
    simp only [s12_8, ↓wP, wS, Nat.reduceEqDiff, reduceIte, Nat.reduceLeDiff, and_self, cond_true, cond_false, Nat.reduceAdd, Nat.reduceMul, q0, rdT_of g8]
    refine StoreQ.one rfl g8 (by simp) (by rw [k8.fz]; exact hn) fun h9 n9 g9 k9 => ?_
    simp only [↓wP, wS, Nat.reduceEqDiff, reduceIte, Nat.reduceLeDiff, and_self, cond_true, cond_false, Nat.reduceAdd, Nat.reduceMul] at g9 ⊢
    refine Code.seq (Code.ops ?_)
    simp only [s12_9, ↓wP, wS, Nat.reduceEqDiff, reduceIte, Nat.reduceLeDiff, and_self, cond_true, cond_false, Nat.reduceAdd, Nat.reduceMul, q0, rdT_of g9]
    refine StoreQ.one rfl g9 (by simp) (by rw [k9.fz, k8.fz]; exact hn) fun h10 n10 g10 k10 => ?_
    simp only [↓wP, wS, Nat.reduceEqDiff, reduceIte, Nat.reduceLeDiff, and_self, cond_true, cond_false, Nat.reduceAdd, Nat.reduceMul] at g10 ⊢
    refine Code.seq (Code.ops ?_)
    simp only [s12_10, ↓wP, wS, Nat.reduceEqDiff, reduceIte, Nat.reduceLeDiff, and_self, cond_true, cond_false, Nat.reduceAdd, Nat.reduceMul, q0, rdT_of g10]
    refine Code.ret ?_
    simp only [resVs, resV, pack, ↓wP, wS, Nat.reduceEqDiff, reduceIte, Nat.reduceLeDiff, and_self, cond_true, cond_false, Nat.reduceAdd, Nat.reduceMul]
    simp only [hyes, if_true] at hr
    have k010 : Kp (· = bt) h h10 := ((k07.trans (k8.weaken (fun _ _ hx => hx.elim))).trans k9).trans k10
    obtain ⟨lt8, _, rv8, gg8, root8⟩ := L8
    rw [g8] at gg8
    cases gg8
    exact ⟨trivial, _, rfl, hr _ k010 ⟨Nat.lt_of_lt_of_le lt k010.next, nz, v0, g10, (root8.keep k9 (fun b hb => by rw [hb]; exact nz)).keep k10 (fun b hb => by rw [hb]; exact nz)⟩⟩
  refine Code.seq (Code.seq (Code.ops ?_))
  simp only [s12_5, ↓wP, wS, Nat.reduceEqDiff, reduceIte, Nat.reduceLeDiff, and_self, cond_true, cond_false, Nat.reduceAdd, Nat.reduceMul]
  refine places_call TT hf7 L7 ok7 fun r8 h8 k8 hw8 => ?_
  obtain ⟨rb8, rfl, w1, w2, w3⟩ := hw8
  by_cases h16 : (16 : Int) < ((area (setTree S t0)).length : Int)
  · have hno : splitOk S t0 = false := by simp [splitOk, h16]
    simp only [↓wP, wS, Nat.reduceEqDiff, reduceIte, Nat.reduceLeDiff, and_self, cond_true, cond_false, Nat.reduceAdd, Nat.reduceMul, h16, decide_true]
    refine Code.cond (t := true) (by simp only [↓wP, wS, Nat.reduceEqDiff, reduceIte, Nat.reduceLeDiff, and_self, cond_true, cond_false, Nat.reduceAdd, Nat.reduceMul]) (fun _ => ?_) (fun h => by cases h)
    refine (back hno _ h8 k8 (by simp only [↓wP, wS, Nat.reduceEqDiff, reduceIte, Nat.reduceLeDiff, and_self, cond_true, cond_false, Nat.reduceAdd, Nat.reduceMul]) (by simp only [↓wP, wS, Nat.reduceEqDiff, reduceIte, Nat.reduceLeDiff, and_self, cond_true, cond_false, Nat.reduceAdd, Nat.reduceMul])).mono fun fl s hs => ?_
    obtain ⟨rfl, hs⟩ := hs
    exact ⟨trivial, hs⟩
  · simp only [↓wP, wS, Nat.reduceEqDiff, reduceIte, Nat.reduceLeDiff, and_self, cond_true, cond_false, Nat.reduceAdd, Nat.reduceMul, h16, decide_false]
    refine fits_call TT (k8.fzLt hf7) (L7.mono k8.old) ok7 fun h9 k9 => ?_
    simp only [↓wP, wS, Nat.reduceEqDiff, reduceIte, Nat.reduceLeDiff, and_self, cond_true, cond_false, Nat.reduceAdd, Nat.reduceMul, h16, decide_false]
    have hsk : splitOk S t0 = fitsL (area (setTree S t0)) := by simp [splitOk, h16]
    refine Code.cond (t := !fitsL (area (setTree S t0))) (by simp only [↓wP, wS, Nat.reduceEqDiff, reduceIte, Nat.reduceLeDiff, and_self, cond_true, cond_false, Nat.reduceAdd, Nat.reduceMul]) (fun hx => ?_) (fun hx => ?_)
    · have hno : splitOk S t0 = false := by rw [hsk]; simpa using hx
      refine (back hno _ h9 (k8.trans k9) (by simp only [↓wP, wS, Nat.reduceEqDiff, reduceIte, Nat.reduceLeDiff, and_self, cond_true, cond_false, Nat.reduceAdd, Nat.reduceMul]) (by simp only [↓wP, wS, Nat.reduceEqDiff, reduceIte, Nat.reduceLeDiff, and_self, cond_true, cond_false, Nat.reduceAdd, Nat.reduceMul])).mono fun fl s hs => ?_
      obtain ⟨rfl, hs⟩ := hs
      exact ⟨trivial, hs⟩
    · have hyes : splitOk S t0 = true := by rw [hsk]; simpa using hx
      refine Code.skip ?_
      exact on hyes _ h9 (k8.trans k9) (by simp only [↓wP, wS, Nat.reduceEqDiff, reduceIte, Nat.reduceLeDiff, and_self, cond_true, cond_false, Nat.reduceAdd, Nat.reduceMul])
end
end Go.Eng
