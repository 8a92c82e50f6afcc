/- Close, Go of the program's tree. -/
import Derived.Test.YtdafdampodbobaaSeatMove
namespace Go.Eng
set_option linter.unusedSimpArgs false
set_option linter.unusedVariables false

def pred (i : Int) : Int := if w64 (i - 1) > 0 then w64 (i - 1) else 0
def idAt (l : List Wn) (i : Nat) : Int :=
  match l[i]? with
  | some w => w.id
  | none => 0
def closeS (S : LS) (id : Int) : LS :=
  if idxId (area S) id < 0 then S
  else match wth id [] S.tree with
    | [] => S
    | t :: _ => if id = S.here then { S with tree := t, here := idAt (area (setTree S t)) (pred (idxId (area S) id)).toNat } else { S with tree := t }
def closeA (S : LS) (id : Int) : Int :=
  if idxId (area S) id < 0 then 4
  else match wth id [] S.tree with
    | [] => 33
    | _ :: _ => 0

section
variable {F : FuncId → Option SFunc} {G : FuncId → List Value → Option Value}

theorem close_call (TT : Tab F G) {h : Hp} (hf : FzLt h) {Z : Nat → Prop} {bt : Nat} {S : LS} (a : LAt Z h bt S) (ok : LOk S) (hsm : (ids S.tree).length ≤ 500) {id : Int}
    (hix : ∀ t ts, wth id [] S.tree = t :: ts → id = S.here → ¬ idxId (area S) id < 0 → (pred (idxId (area S) id)).toNat < (area (setTree S t)).length) (hn : bt ∉ h.fz) (hz : ∀ b, h.next ≤ b → Z b) {R : Value → Hp → Prop}
    (hr : ∀ h', Kp (· = bt) h h' → LAt Z h' bt (closeS S id) → R (i64 (closeA S id)) h') : Call F G 15 [pt bt 0, i64 id] h R := by
  refine Call.enter (TT.g _ _ (by decide)) TT.f15 (Nat.le_of_ble_eq_true rfl) ?_
  simp only [c15, envOf]
  refine Code.seq (Code.ops ?_)
  simp only [s15_0, ↓wP, wS, Nat.reduceEqDiff, reduceIte, Nat.reduceLeDiff, and_self, cond_true, cond_false, Nat.reduceAdd, Nat.reduceMul]
  refine Code.seq (Code.seq (Code.ops ?_))
  simp only [s15_1, ↓wP, wS, Nat.reduceEqDiff, reduceIte, Nat.reduceLeDiff, and_self, cond_true, cond_false, Nat.reduceAdd, Nat.reduceMul]
  refine Code.cond (t := false) (by simp only [↓wP, wS, Nat.reduceEqDiff, reduceIte, Nat.reduceLeDiff, and_self, cond_true, cond_false, Nat.reduceAdd, Nat.reduceMul]) (fun hx => by cases hx) (fun _ => Code.skip ?_)
  refine Code.seq (Code.ops ?_)
  simp only [s15_3, ↓wP, wS, Nat.reduceEqDiff, reduceIte, Nat.reduceLeDiff, and_self, cond_true, cond_false, Nat.reduceAdd, Nat.reduceMul]
  refine index_call TT hf a ok fun h1 k1 => ?_
  simp only [↓wP, wS, Nat.reduceEqDiff, reduceIte, Nat.reduceLeDiff, and_self, cond_true, cond_false, Nat.reduceAdd, Nat.reduceMul]
  have a1 := a.mono k1.old
  refine Code.seq (Code.seq (Code.ops ?_))
  simp only [s15_4, ↓wP, wS, Nat.reduceEqDiff, reduceIte, Nat.reduceLeDiff, and_self, cond_true, cond_false, Nat.reduceAdd, Nat.reduceMul]
  refine Code.cond (t := decide (idxId (area S) id < 0)) (by simp only [↓wP, wS, Nat.reduceEqDiff, reduceIte, Nat.reduceLeDiff, and_self, cond_true, cond_false, Nat.reduceAdd, Nat.reduceMul]) (fun hx => ?_) (fun hx => ?_)
  · refine Code.seq (Code.ops ?_)
    simp only [s15_5, ↓wP, wS, Nat.reduceEqDiff, reduceIte, Nat.reduceLeDiff, and_self, cond_true, cond_false, Nat.reduceAdd, Nat.reduceMul]
    refine Code.ret ?_
    simp only [resVs, resV, pack, ↓wP, wS, Nat.reduceEqDiff, reduceIte, Nat.reduceLeDiff, and_self, cond_true, cond_false, Nat.reduceAdd, Nat.reduceMul]
    rw [decide_eq_true_eq] at hx
    simp only [closeS, closeA, hx, if_true] at hr
    exact ⟨trivial, _, rfl, hr _ (k1.weaken (fun _ _ hx => hx.elim)) a1⟩
  · rw [decide_eq_false_iff_not] at hx
    refine Code.skip ?_
    obtain ⟨lt, nz, rv, hg, hroot⟩ := a1
    refine Code.seq (Code.ops ?_)
    simp only [s15_6, ↓wP, wS, Nat.reduceEqDiff, reduceIte, Nat.reduceLeDiff, and_self, cond_true, cond_false, Nat.reduceAdd, Nat.reduceMul, rdT_of hg]
    have w := withs_all TT (Z := fun b => Z b ∧ b < h1.next) (h0 := h1) (v := rv) (id := id) (byv := .slice none 0 0) (by' := []) (fun b hb => hb.2) (by simp [Goods]) (by simp [idss]) (.inl ⟨rfl, rfl⟩) (hroot.imp (fun b hb hz => ⟨hz, hb⟩)) ok.good ok.small
    refine w h1 _ (Old.refl _) (k1.fzLt hf) fun r h2 k2 hr2 => ?_
    simp only [↓wP, wS, Nat.reduceEqDiff, reduceIte, Nat.reduceLeDiff, and_self, cond_true, cond_false, Nat.reduceAdd, Nat.reduceMul]
    refine Code.seq (Code.seq (Code.ops ?_))
    simp only [s15_7, ↓wP, wS, Nat.reduceEqDiff, reduceIte, Nat.reduceLeDiff, and_self, cond_true, cond_false, Nat.reduceAdd, Nat.reduceMul, hr2.len]
    have k02 : K0 h h2 := k1.trans k2
    have hg2 := k2.keep lt (fun x => x) hg
    have lt2 := k2.next
    have htl := wth_len id [] (by simp [idss]) S.tree
    have htg := wth_good id [] (by simp [Goods]) S.tree ok.good
    cases hst : wth id [] S.tree with
    | nil =>
      rw [hst] at hr2
      refine Code.cond (t := true) (by simp only [↓wP, wS, Nat.reduceEqDiff, reduceIte, Nat.reduceLeDiff, and_self, cond_true, cond_false, Nat.reduceAdd, Nat.reduceMul]; rfl) (fun _ => ?_) (fun h => by cases h)
      refine Code.seq (Code.ops ?_)
      simp only [s15_8, ↓wP, wS, Nat.reduceEqDiff, reduceIte, Nat.reduceLeDiff, and_self, cond_true, cond_false, Nat.reduceAdd, Nat.reduceMul]
      refine Code.ret ?_
      simp only [resVs, resV, pack, ↓wP, wS, Nat.reduceEqDiff, reduceIte, Nat.reduceLeDiff, and_self, cond_true, cond_false, Nat.reduceAdd, Nat.reduceMul]
      simp only [closeS, closeA, hx, if_false, hst] at hr
      exact ⟨trivial, _, rfl, hr _ (k02.weaken (fun _ _ hx => hx.elim)) ⟨by omega, nz, rv, hg2, hroot.mono k2.old⟩⟩
    | cons t0 ts =>
      rw [hst] at hr2 htl htg
      have hne : ¬ (((ts.length + 1 : Nat) : Int) = 0) := by omega
      refine Code.cond (t := false) (by simp only [↓wP, wS, Nat.reduceEqDiff, reduceIte, Nat.reduceLeDiff, and_self, cond_true, cond_false, Nat.reduceAdd, Nat.reduceMul]; rw [decide_eq_false hne]) (fun h => by cases h) (fun _ => Code.skip ?_)
      rcases hr2 with ⟨hx, _⟩ | ⟨rb, rvs, rsz, rown, rfl, rp, rlt, rz, rg, rl, re⟩
      · cases hx
      cases rvs with
      | nil => cases rp
      | cons v0 rvs =>
      have hv0 := re 0 v0 t0 rfl rfl
      have hp0 : (0 : Int) < ((rvs.length + 1 : Nat) : Int) := by omega
      refine Code.seq (Code.ops ?_)
      simp only [s15_9, ↓wP, wS, Nat.reduceEqDiff, reduceIte, Nat.reduceLeDiff, and_self, cond_true, cond_false, Nat.reduceAdd, Nat.reduceMul, rdT_of rg, Int.le_refl, hp0, and_self, if_true, Int.toNat_zero, Nat.zero_mul]
      refine StoreQ.one hv0.one hg2 (by simp) (by rw [k02.fz]; exact hn) fun h3 n3 g3 k3 => ?_
      simp only [↓wP, wS, Nat.reduceEqDiff, reduceIte, Nat.reduceLeDiff, and_self, cond_true, cond_false, Nat.reduceAdd, Nat.reduceMul] at g3 ⊢
      have zlow : ∀ b, b < h2.next → (OrNew (fun b => Z b ∧ b < h1.next) h1.next) b → Z b := fun b _ hz' => by
        rcases hz' with hz' | hz'
        · exact hz'.1
        · exact hz b (by have := k1.next; omega)
      have T3 : TAt Z h3 v0 t0 := hv0.move (by omega) (fun b hb hz' => k3.get b hb (fun hx => by subst hx; exact nz (zlow b hb hz'))) zlow
      have L3 : LAt Z h3 bt (setTree S t0) := ⟨by omega, nz, v0, g3, T3⟩
      have k03 : Kp (· = bt) h h3 := (k02.weaken (fun _ _ hx => hx.elim)).trans k3
      rw [Goods] at htg
      rw [idss, List.length_append] at htl
      have ok3 : LOk (setTree S t0) := ⟨htg.1, by show (ids t0).length ≤ 1000; omega⟩
      refine Code.seq (Code.seq (Code.ops ?_))
      simp only [s15_10, ↓wP, wS, Nat.reduceEqDiff, reduceIte, Nat.reduceLeDiff, and_self, cond_true, cond_false, Nat.reduceAdd, Nat.reduceMul, rdT_of g3]
      simp only [closeS, closeA, hx, if_false, hst] at hr
      refine Code.cond (t := decide (id = S.here)) (by simp only [↓wP, wS, Nat.reduceEqDiff, reduceIte, Nat.reduceLeDiff, and_self, cond_true, cond_false, Nat.reduceAdd, Nat.reduceMul]) (fun hid => ?_) (fun hid => ?_)
      · rw [decide_eq_true_eq] at hid
        simp only [hid, if_true] at hr
        have hi := hix t0 ts hst hid hx
        refine Code.ops ?_
        simp only [s15_11, ↓wP, wS, Nat.reduceEqDiff, reduceIte, Nat.reduceLeDiff, and_self, cond_true, cond_false, Nat.reduceAdd, Nat.reduceMul]
        refine places_call TT (k03.fzLt hf) L3 ok3 fun r4 h4 k4 hw4 => ?_
        obtain ⟨rb4, rfl, w1, w2, w3⟩ := hw4
        have hpi : ∃ w, (area (setTree S t0))[(pred (idxId (area S) id)).toNat]? = some w := ⟨_, List.getElem?_eq_getElem hi⟩
        obtain ⟨wn, hwn⟩ := hpi
        have hp1 : 0 ≤ pred (idxId (area S) id) := by unfold pred; split <;> omega
        have hp2 : pred (idxId (area S) id) < ((area (setTree S t0)).length : Int) := by omega
        have hpd : (if w64 (idxId (area S) id - 1) > 0 then w64 (idxId (area S) id - 1) else 0) = pred (idxId (area S) id) := rfl
        have hrd : rdT h4.t rb4 ((pred (idxId (area S) id)).toNat * 5) = some (i64 wn.id) := by
          obtain ⟨q1, q2⟩ := wcells_at _ _ _ hwn
          rw [rdT_of w3]
          have := congrArg (·[0]?) q1
          simpa [Wn.cells] using this
        simp only [↓wP, wS, Nat.reduceEqDiff, reduceIte, Nat.reduceLeDiff, and_self, cond_true, cond_false, Nat.reduceAdd, Nat.reduceMul, hpd, hp1, hp2, and_self, if_true, Nat.add_zero, hrd]
        have g4 := k4.keep (by omega) (fun x => x) g3
        refine StoreQ.one rfl g4 (by simp) (by rw [k4.fz, k3.fz, k02.fz]; exact hn) fun h5 n5 g5 k5 => ?_
        simp only [↓wP, wS, Nat.reduceEqDiff, reduceIte, Nat.reduceLeDiff, and_self, cond_true, cond_false, Nat.reduceAdd, Nat.reduceMul] at g5 ⊢
        refine Code.seq (Code.ops ?_)
        simp only [s15_12, ↓wP, wS, Nat.reduceEqDiff, reduceIte, Nat.reduceLeDiff, and_self, cond_true, cond_false, Nat.reduceAdd, Nat.reduceMul]
        refine Code.ret ?_
        simp only [resVs, resV, pack, ↓wP, wS, Nat.reduceEqDiff, reduceIte, Nat.reduceLeDiff, and_self, cond_true, cond_false, Nat.reduceAdd, Nat.reduceMul]
        have hidAt : idAt (area (setTree S t0)) (pred (idxId (area S) S.here)).toNat = wn.id := by
          rw [← hid]
          simp only [idAt, hwn]
        rw [hidAt] at hr
        have k05 : Kp (· = bt) h h5 := (k03.trans (k4.weaken (fun _ _ hx => hx.elim))).trans k5
        exact ⟨trivial, _, rfl, hr _ k05 ⟨by have := k4.next; omega, nz, v0, g5, (T3.mono k4.old).keep k5 (fun b hb => by rw [hb]; exact nz)⟩⟩
      · rw [decide_eq_false_iff_not] at hid
        simp only [hid, if_false] at hr
        refine Code.skip ?_
        refine Code.seq (Code.ops ?_)
        simp only [s15_12, ↓wP, wS, Nat.reduceEqDiff, reduceIte, Nat.reduceLeDiff, and_self, cond_true, cond_false, Nat.reduceAdd, Nat.reduceMul]
        refine Code.ret ?_
        simp only [resVs, resV, pack, ↓wP, wS, Nat.reduceEqDiff, reduceIte, Nat.reduceLeDiff, and_self, cond_true, cond_false, Nat.reduceAdd, Nat.reduceMul]
        exact ⟨trivial, _, rfl, hr _ k03 L3⟩
end
end Go.Eng
