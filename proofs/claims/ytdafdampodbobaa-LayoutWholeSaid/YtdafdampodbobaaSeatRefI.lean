/- The document's tree: Close, Only, Focus, Go, Resize. -/
import Derived.Test.YtdafdampodbobaaSeatRefH
namespace Go.Eng
set_option linter.unusedSimpArgs false
set_option linter.unusedVariables false
section
variable {F : FuncId → Option SFunc} {G : FuncId → List Value → Option Value}

theorem ref_close (TT : Tab F G) {h : Hp} (hf : FzLt h) {Z : Nat → Prop} {bx : Nat} {S : LS} (a : RAt Z h bx S) (ok : LOk S) (ic : InR S.cols) (hsm : (ids S.tree).length ≤ 500) {id : Int}
    (hix : id = S.here → ¬ idxId (area S) id < 0 → ¬ (area S).length = 1 → (pred (idxId (area S) id)).toNat < (area (setTree S (rcloseT S id))).length) (hn : bx ∉ h.fz) (hz : ∀ b, h.next ≤ b → Z b) {R : Value → Hp → Prop}
    (hr : ∀ h', Kp (· = bx) h h' → RAt Z h' bx (rcloseS S id) → R (i64 (rcloseA S id)) h') : Call F G 32 [pt bx 0, i64 id] h R := by
  have lt := a.lt
  have nz := a.nz
  refine Call.enter (TT.g _ _ (by decide)) TT.f32 (Nat.le_of_ble_eq_true rfl) ?_
  simp only [c32, envOf]
  refine Code.seq (Code.ops ?_)
  simp only [s32_0, ↓wP, wS, Nat.reduceEqDiff, reduceIte, Nat.reduceLeDiff, and_self, cond_true, cond_false, Nat.reduceAdd, Nat.reduceMul]
  refine Code.seq (Code.ops ?_)
  simp only [s32_1, ↓wP, wS, Nat.reduceEqDiff, reduceIte, Nat.reduceLeDiff, and_self, cond_true, cond_false, Nat.reduceAdd, Nat.reduceMul]
  refine ref_order TT hf a ok ic fun h1 k1 => ?_
  simp only [↓wP, wS, Nat.reduceEqDiff, reduceIte, Nat.reduceLeDiff, and_self, cond_true, cond_false, Nat.reduceAdd, Nat.reduceMul]
  have a1 := a.mono k1.old
  refine Code.seq (Code.seq (Code.ops ?_))
  simp only [s32_2, ↓wP, wS, Nat.reduceEqDiff, reduceIte, Nat.reduceLeDiff, and_self, cond_true, cond_false, Nat.reduceAdd, Nat.reduceMul]
  refine Code.cond (t := decide (idxId (area S) id < 0)) (by simp only [↓wP, wS, Nat.reduceEqDiff, reduceIte, Nat.reduceLeDiff, and_self, cond_true, cond_false, Nat.reduceAdd, Nat.reduceMul]) (fun hx => ?_) (fun hx => ?_)
  · refine Code.seq (Code.ops ?_)
    simp only [s32_3, ↓wP, wS, Nat.reduceEqDiff, reduceIte, Nat.reduceLeDiff, and_self, cond_true, cond_false, Nat.reduceAdd, Nat.reduceMul]
    refine Code.ret ?_
    simp only [resVs, resV, pack, ↓wP, wS, Nat.reduceEqDiff, reduceIte, Nat.reduceLeDiff, and_self, cond_true, cond_false, Nat.reduceAdd, Nat.reduceMul]
    rw [decide_eq_true_eq] at hx
    simp only [rcloseS, rcloseA, hx, if_true] at hr
    exact ⟨trivial, _, rfl, hr _ (k1.weaken (fun _ _ hx => hx.elim)) a1⟩
  rw [decide_eq_false_iff_not] at hx
  refine Code.skip ?_
  refine Code.seq (Code.seq (Code.ops ?_))
  simp only [s32_4, ↓wP, wS, Nat.reduceEqDiff, reduceIte, Nat.reduceLeDiff, and_self, cond_true, cond_false, Nat.reduceAdd, Nat.reduceMul]
  refine ref_places TT (k1.fzLt hf) a1 ok ic fun r2 h2 k2 hw2 => ?_
  obtain ⟨rb2, rfl, _, _, _⟩ := hw2
  simp only [↓wP, wS, Nat.reduceEqDiff, reduceIte, Nat.reduceLeDiff, and_self, cond_true, cond_false, Nat.reduceAdd, Nat.reduceMul]
  have a2 := a1.mono k2.old
  have k02 : K0 h h2 := k1.trans k2
  by_cases h1l : (area S).length = 1
  · have h1i : ((area S).length : Int) = 1 := by omega
    refine Code.cond (t := true) (by simp only [↓wP, wS, Nat.reduceEqDiff, reduceIte, Nat.reduceLeDiff, and_self, cond_true, cond_false, Nat.reduceAdd, Nat.reduceMul, h1i, decide_true]) (fun _ => Code.seq (Code.ops ?_)) (fun h => by cases h)
    simp only [s32_5, ↓wP, wS, Nat.reduceEqDiff, reduceIte, Nat.reduceLeDiff, and_self, cond_true, cond_false, Nat.reduceAdd, Nat.reduceMul]
    refine Code.ret ?_
    simp only [resVs, resV, pack, ↓wP, wS, Nat.reduceEqDiff, reduceIte, Nat.reduceLeDiff, and_self, cond_true, cond_false, Nat.reduceAdd, Nat.reduceMul]
    simp only [rcloseS, rcloseA, hx, h1l, if_true, if_false] at hr
    exact ⟨trivial, _, rfl, hr _ (k02.weaken (fun _ _ hx => hx.elim)) a2⟩
  have h1i : ¬ ((area S).length : Int) = 1 := by omega
  refine Code.cond (t := false) (by simp only [↓wP, wS, Nat.reduceEqDiff, reduceIte, Nat.reduceLeDiff, and_self, cond_true, cond_false, Nat.reduceAdd, Nat.reduceMul, h1i, decide_false]) (fun h => by cases h) (fun _ => Code.skip ?_)
  obtain ⟨x, y, z, hg2, root2⟩ := a2.cells
  refine Code.seq (Code.ops ?_)
  have r32 := rdN_of (n := 3) (o := 0) hg2 (by simp)
  simp only [s32_6, ↓wP, wS, Nat.reduceEqDiff, reduceIte, Nat.reduceLeDiff, and_self, cond_true, cond_false, Nat.reduceAdd, Nat.reduceMul, r32]
  obtain ⟨pg1, pl1, pg2, pl2⟩ := put_plain id (.win 0) (by simp [Good]) (by simp [ids]) S.tree ok.good hsm
  have nx1 := k1.next
  have nx2 := k2.next
  have root2' : NAt (fun b => Z b ∧ b < h2.next) h2 [x, y, z] S.tree := root2.move (Nat.le_refl _) (fun _ _ _ => rfl) (fun b hb hz' => ⟨hz', hb⟩)
  refine put_all TT (Z := fun b => Z b ∧ b < h2.next) (h0 := h2) (fun b hb => hb.2) (x := .win 0) (.win 0) (t := S.tree) root2' ok.good ok.small _ _ (Old.refl _) (k02.fzLt hf) fun n6 h6 k6 hn6 => ?_
  simp only [↓wP, wS, Nat.reduceEqDiff, reduceIte, Nat.reduceLeDiff, and_self, cond_true, cond_false, Nat.reduceAdd, Nat.reduceMul]
  have n6' : NAt (fun b => (OrNew (fun b => Z b ∧ b < h2.next) h2.next b) ∧ b < h6.next) h6 n6 (putT id (.win 0) S.tree) := hn6.move (Nat.le_refl _) (fun _ _ _ => rfl) (fun b hb hz' => ⟨hz', hb⟩)
  have nx6 := k6.next
  refine plain_all TT (Z := fun b => (OrNew (fun b => Z b ∧ b < h2.next) h2.next b) ∧ b < h6.next) (h0 := h6) (fun b hb => hb.2) n6' pg1 pl1 _ _ (Old.refl _) ((k02.trans k6).fzLt hf) fun n7 h7 k7 hn7 => ?_
  have nx7 := k7.next
  simp only [↓wP, wS, Nat.reduceEqDiff, reduceIte, Nat.reduceLeDiff, and_self, cond_true, cond_false, Nat.reduceAdd, Nat.reduceMul]
  have k07 : K0 h h7 := (k02.trans k6).trans k7
  have n73 := hn7.three
  have hg7 := (k6.trans k7).keep (by omega) (fun x => x) hg2
  refine StoreQ.agg n73.2 n73.1 hg7 (by simp) (by rw [k07.fz]; exact hn) fun h8 n8 g8 k8 => ?_
  obtain ⟨x7, y7, z7, rfl⟩ := three_eq n73.1
  simp only [↓wP, wS, Nat.reduceEqDiff, reduceIte, Nat.reduceLeDiff, and_self, cond_true, cond_false, Nat.reduceAdd, Nat.reduceMul] at g8 ⊢
  have zlow : ∀ b, b < h7.next → OrNew (fun b => (OrNew (fun b => Z b ∧ b < h2.next) h2.next b) ∧ b < h6.next) h6.next b → Z b := fun b _ hz' => by
    rcases hz' with hz' | hz'
    · rcases hz'.1 with h1 | h1
      · exact h1.1
      · exact hz b (by omega)
    · exact hz b (by omega)
  have k08 : Kp (· = bx) h h8 := (k07.weaken (fun _ _ hx => hx.elim)).trans k8
  have N8 : NAt Z h8 [x7, y7, z7] (rcloseT S id) := NAt.move (h := h7) (h' := h8) (by omega) (fun b hb hz' => k8.get b hb (fun hx => nz (hx ▸ zlow b hb hz'))) zlow hn7
  have L8 : RAt Z h8 bx (setTree S (rcloseT S id)) := ⟨by omega, nz, [x7, y7, z7], g8, N8⟩
  have ok8 : LOk (setTree S (rcloseT S id)) := ⟨pg2, pl2⟩
  simp only [rcloseS, rcloseA, hx, h1l, if_false] at hr
  refine Code.seq (Code.seq (Code.ops ?_))
  simp only [s32_7, ↓wP, wS, Nat.reduceEqDiff, reduceIte, Nat.reduceLeDiff, and_self, cond_true, cond_false, Nat.reduceAdd, Nat.reduceMul, rdT_of g8]
  refine Code.cond (t := decide (id = S.here)) (by simp only [↓wP, wS, Nat.reduceEqDiff, reduceIte, Nat.reduceLeDiff, and_self, cond_true, cond_false, Nat.reduceAdd, Nat.reduceMul]) (fun hid => ?_) (fun hid => ?_)
  · rw [decide_eq_true_eq] at hid
    simp only [hid, if_true] at hr
    have hi := hix hid hx h1l
    refine Code.ops ?_
    simp only [s32_8, ↓wP, wS, Nat.reduceEqDiff, reduceIte, Nat.reduceLeDiff, and_self, cond_true, cond_false, Nat.reduceAdd, Nat.reduceMul]
    refine ref_places TT (k08.fzLt hf) L8 ok8 ic fun r4 h4 k4 hw4 => ?_
    obtain ⟨rb4, rfl, w1, w2, w3⟩ := hw4
    have hp1 : 0 ≤ pred (idxId (area S) id) := pred_range _
    have hp2 : pred (idxId (area S) id) < ((area (setTree S (rcloseT S id))).length : Int) := by omega
    have hpd : (if w64 (idxId (area S) id - 1) > 0 then w64 (idxId (area S) id - 1) else 0) = pred (idxId (area S) id) := rfl
    have hrd := rdT_id (i := (pred (idxId (area S) id)).toNat) w3 (by omega)
    simp only [↓wP, wS, Nat.reduceEqDiff, reduceIte, Nat.reduceLeDiff, and_self, cond_true, cond_false, Nat.reduceAdd, Nat.reduceMul, hpd, hp1, hp2, and_self, if_true, Nat.add_zero, hrd]
    have g4 := k4.keep (by omega) (fun x => x) g8
    refine StoreQ.one rfl g4 (by simp) (by rw [k4.fz, k08.fz]; exact hn) fun h5 n5 g5 k5 => ?_
    simp only [↓wP, wS, Nat.reduceEqDiff, reduceIte, Nat.reduceLeDiff, and_self, cond_true, cond_false, Nat.reduceAdd, Nat.reduceMul] at g5 ⊢
    refine Code.seq (Code.ops ?_)
    simp only [s32_9, ↓wP, wS, Nat.reduceEqDiff, reduceIte, Nat.reduceLeDiff, and_self, cond_true, cond_false, Nat.reduceAdd, Nat.reduceMul]
    refine Code.ret ?_
    simp only [resVs, resV, pack, ↓wP, wS, Nat.reduceEqDiff, reduceIte, Nat.reduceLeDiff, and_self, cond_true, cond_false, Nat.reduceAdd, Nat.reduceMul]
    rw [hid] at g5 N8
    have k05 : Kp (· = bx) h h5 := (k08.trans (k4.weaken (fun _ _ hx => hx.elim))).trans k5
    exact ⟨trivial, _, rfl, hr _ k05 ⟨by have := k4.next; omega, nz, [x7, y7, z7], g5, (N8.mono k4.old).keep k5 (fun b hb => by rw [hb]; exact nz)⟩⟩
  · rw [decide_eq_false_iff_not] at hid
    simp only [hid, if_false] at hr
    refine Code.skip ?_
    refine Code.seq (Code.ops ?_)
    simp only [s32_9, ↓wP, wS, Nat.reduceEqDiff, reduceIte, Nat.reduceLeDiff, and_self, cond_true, cond_false, Nat.reduceAdd, Nat.reduceMul]
    refine Code.ret ?_
    simp only [resVs, resV, pack, ↓wP, wS, Nat.reduceEqDiff, reduceIte, Nat.reduceLeDiff, and_self, cond_true, cond_false, Nat.reduceAdd, Nat.reduceMul]
    exact ⟨trivial, _, rfl, hr _ k08 L8⟩

def onlyS (S : LS) : LS := { S with tree := .win S.here }

theorem ref_only (TT : Tab F G) {h : Hp} (hf : FzLt h) {Z : Nat → Prop} {bx : Nat} {S : LS} (a : RAt Z h bx S) (hn : bx ∉ h.fz) {R : Value → Hp → Prop}
    (hr : ∀ v h', Kp (· = bx) h h' → RAt Z h' bx (onlyS S) → R v h') : Call F G 33 [pt bx 0] h R := by
  obtain ⟨x, y, z, hg, root⟩ := a.cells
  refine Call.enter (TT.g _ _ (by decide)) TT.f33 (Nat.le_of_ble_eq_true rfl) ?_
  simp only [c33, envOf]
  refine Code.ops ?_
  simp only [s33_0, ↓wP, wS, Nat.reduceEqDiff, reduceIte, Nat.reduceLeDiff, and_self, cond_true, cond_false, Nat.reduceAdd, Nat.reduceMul, rdT_of hg]
  refine StoreQ.agg (by rfl) rfl hg (by simp) hn fun h1 n1 g1 k1 => ?_
  simp only [↓wP, wS, Nat.reduceEqDiff, reduceIte, Nat.reduceLeDiff, and_self, cond_true, cond_false, Nat.reduceAdd, Nat.reduceMul] at g1 ⊢
  simp only [resVs, pack]
  exact ⟨trivial, _, rfl, hr _ _ k1 ⟨by rw [n1]; exact a.lt, a.nz, [i64 0, i64 S.here, .slice none 0 0], g1, .win _⟩⟩

def focusS (S : LS) (id : Int) : LS := if idxId (area S) id < 0 then S else { S with here := id }
def focusA (S : LS) (id : Int) : Int := if idxId (area S) id < 0 then 4 else 0

theorem ref_focus (TT : Tab F G) {h : Hp} (hf : FzLt h) {Z : Nat → Prop} {bx : Nat} {S : LS} (a : RAt Z h bx S) (ok : LOk S) (ic : InR S.cols) {id : Int} (hn : bx ∉ h.fz) {R : Value → Hp → Prop}
    (hr : ∀ h', Kp (· = bx) h h' → RAt Z h' bx (focusS S id) → R (i64 (focusA S id)) h') : Call F G 34 [pt bx 0, i64 id] h R := by
  refine Call.enter (TT.g _ _ (by decide)) TT.f34 (Nat.le_of_ble_eq_true rfl) ?_
  simp only [c34, envOf]
  refine Code.seq (Code.ops ?_)
  simp only [s34_0, ↓wP, wS, Nat.reduceEqDiff, reduceIte, Nat.reduceLeDiff, and_self, cond_true, cond_false, Nat.reduceAdd, Nat.reduceMul]
  refine Code.seq (Code.seq (Code.ops ?_))
  simp only [s34_1, ↓wP, wS, Nat.reduceEqDiff, reduceIte, Nat.reduceLeDiff, and_self, cond_true, cond_false, Nat.reduceAdd, Nat.reduceMul]
  refine ref_order TT hf a ok ic fun h1 k1 => ?_
  simp only [↓wP, wS, Nat.reduceEqDiff, reduceIte, Nat.reduceLeDiff, and_self, cond_true, cond_false, Nat.reduceAdd, Nat.reduceMul]
  have a1 := a.mono k1.old
  refine Code.cond (t := decide (idxId (area S) id < 0)) (by simp only [↓wP, wS, Nat.reduceEqDiff, reduceIte, Nat.reduceLeDiff, and_self, cond_true, cond_false, Nat.reduceAdd, Nat.reduceMul]) (fun hx => ?_) (fun hx => ?_)
  · refine Code.seq (Code.ops ?_)
    simp only [s34_2, ↓wP, wS, Nat.reduceEqDiff, reduceIte, Nat.reduceLeDiff, and_self, cond_true, cond_false, Nat.reduceAdd, Nat.reduceMul]
    refine Code.ret ?_
    simp only [resVs, resV, pack, ↓wP, wS, Nat.reduceEqDiff, reduceIte, Nat.reduceLeDiff, and_self, cond_true, cond_false, Nat.reduceAdd, Nat.reduceMul]
    rw [decide_eq_true_eq] at hx
    simp only [focusS, focusA, hx, if_true] at hr
    exact ⟨trivial, _, rfl, hr _ (k1.weaken (fun _ _ hx => hx.elim)) a1⟩
  rw [decide_eq_false_iff_not] at hx
  refine Code.skip ?_
  obtain ⟨x, y, z, hg, root⟩ := a1.cells
  refine Code.seq (Code.ops ?_)
  simp only [s34_3, ↓wP, wS, Nat.reduceEqDiff, reduceIte, Nat.reduceLeDiff, and_self, cond_true, cond_false, Nat.reduceAdd, Nat.reduceMul]
  refine StoreQ.one rfl hg (by simp) (by rw [k1.fz]; exact hn) fun h2 n2 g2 k2 => ?_
  simp only [↓wP, wS, Nat.reduceEqDiff, reduceIte, Nat.reduceLeDiff, and_self, cond_true, cond_false, Nat.reduceAdd, Nat.reduceMul] at g2 ⊢
  refine Code.seq (Code.ops ?_)
  simp only [s34_4, ↓wP, wS, Nat.reduceEqDiff, reduceIte, Nat.reduceLeDiff, and_self, cond_true, cond_false, Nat.reduceAdd, Nat.reduceMul]
  refine Code.ret ?_
  simp only [resVs, resV, pack, ↓wP, wS, Nat.reduceEqDiff, reduceIte, Nat.reduceLeDiff, and_self, cond_true, cond_false, Nat.reduceAdd, Nat.reduceMul]
  simp only [focusS, focusA, hx, if_false] at hr
  refine ⟨trivial, _, rfl, hr _ ((k1.weaken (fun _ _ hx => hx.elim)).trans k2) ⟨by rw [n2]; exact a1.lt, a1.nz, [x, y, z], g2, root.keep k2 (fun b hb => by rw [hb]; exact a1.nz)⟩⟩

theorem ref_go (TT : Tab F G) {h : Hp} (hf : FzLt h) {Z : Nat → Prop} {bx : Nat} {S : LS} (a : RAt Z h bx S) (ok : LOk S) (ic : InR S.cols) {by' : Int} (hgo : 0 ≤ rgoI (area S).length (idxId (area S) S.here) by' ∧ rgoI (area S).length (idxId (area S) S.here) by' < (area S).length) (hn : bx ∉ h.fz) {R : Value → Hp → Prop}
    (hr : ∀ v h', Kp (· = bx) h h' → RAt Z h' bx (rgoS S by') → R v h') : Call F G 35 [pt bx 0, i64 by'] h R := by
  have hlen : 0 < (area S).length := wins_pos ok
  have hn0 : ((area S).length : Int) ≠ 0 := by omega
  have r1 := hgo.1
  have r2 := hgo.2
  refine Call.enter (TT.g _ _ (by decide)) TT.f35 (Nat.le_of_ble_eq_true rfl) ?_
  simp only [c35, envOf]
  refine Code.seq (Code.ops ?_)
  simp only [s35_0, ↓wP, wS, Nat.reduceEqDiff, reduceIte, Nat.reduceLeDiff, and_self, cond_true, cond_false, Nat.reduceAdd, Nat.reduceMul]
  refine ref_places TT hf a ok ic fun r h1 k1 hw => ?_
  obtain ⟨rb, rfl, w1, w2, w3⟩ := hw
  simp only [↓wP, wS, Nat.reduceEqDiff, reduceIte, Nat.reduceLeDiff, and_self, cond_true, cond_false, Nat.reduceAdd, Nat.reduceMul]
  have a1 := a.mono k1.old
  obtain ⟨x, y, z, hg, root⟩ := a1.cells
  have lt := a1.lt
  refine Code.seq (Code.draw ?_)
  simp only [s35_1, ↓wP, wS, Nat.reduceEqDiff, reduceIte, Nat.reduceLeDiff, and_self, cond_true, cond_false, Nat.reduceAdd, Nat.reduceMul, ↓Draw.cons, dS, decide_true, decide_false, rdT_of hg, bin_rem hn0]
  refine ref_order TT (h := ⟨h1.t, h1.next, h1.fz⟩) (k1.fzLt hf) a1 ok ic fun h2 k2 => ?_
  simp only [↓wP, wS, Nat.reduceEqDiff, reduceIte, Nat.reduceLeDiff, and_self, cond_true, cond_false, Nat.reduceAdd, Nat.reduceMul, ↓Draw.cons, dS, decide_true, decide_false, bin_rem hn0]
  have hrg : (w64 (w64 (idxId (area S) S.here + by'.tmod (area S).length) + (area S).length)).tmod (area S).length = rgoI (area S).length (idxId (area S) S.here) by' := rfl
  have hg2 := k2.keep lt (fun x => x) hg
  have w32 := k2.keep (b := rb) w2 (fun x => x) w3
  have hrd := rdT_id (i := (rgoI (area S).length (idxId (area S) S.here) by').toNat) w32 (by omega)
  refine Code.ops ?_
  simp only [s35_2, ↓wP, wS, Nat.reduceEqDiff, reduceIte, Nat.reduceLeDiff, and_self, cond_true, cond_false, Nat.reduceAdd, Nat.reduceMul, hrg, r1, r2, and_self, if_true, Nat.add_zero, hrd]
  refine StoreQ.one (h := ⟨h2.t, h2.next, h1.fz⟩) rfl hg2 (by simp) (by show bx ∉ h1.fz; rw [k1.fz]; exact hn) fun h3 n3 g3 k3 => ?_
  simp only [↓wP, wS, Nat.reduceEqDiff, reduceIte, Nat.reduceLeDiff, and_self, cond_true, cond_false, Nat.reduceAdd, Nat.reduceMul] at g3 ⊢
  simp only [resVs, pack]
  have k13 : Kp (· = bx) h1 h3 := ⟨by rw [n3]; exact k2.next, fun b hb hx => (k3.get b (Nat.lt_of_lt_of_le hb k2.next) hx).trans (k2.get b hb (fun x => x)), k3.fz⟩
  refine ⟨trivial, _, rfl, hr _ _ ((k1.weaken (fun _ _ hx => hx.elim)).trans k13) ⟨Nat.lt_of_lt_of_le lt k13.next, a1.nz, [x, y, z], g3, root.keep k13 (fun b hb => by rw [hb]; exact a1.nz)⟩⟩

theorem ref_shrink (TT : Tab F G) {h : Hp} (hf : FzLt h) {Z : Nat → Prop} {bx : Nat} (hn : bx ∉ h.fz) (hz : ∀ b, h.next ≤ b → Z b) {Q : Flow → St → Prop} :
    ∀ {n : Nat} {S S' : LS}, RR n S S' → ∀ (cnt : Nat) (s : St), cnt + n ≤ 1000000 → s.e.get 0 = some (pt bx 0) → s.e.get 7 = some (i64 cnt) → Kp (· = bx) h s.h → RAt Z s.h bx S →
      (∀ s', s'.e.get 7 = some (i64 (cnt + n : Nat)) → Kp (· = bx) h s'.h → RAt Z s'.h bx S' → Q (.exit 0) s') → Code F G (.loop b36_10) s Q := by
  intro n S S' hrl
  induction hrl with
  | stop S ok ic hfit =>
    intro cnt s hc e0 e7 hk a hq
    obtain ⟨e, h2⟩ := s
    simp only at e0 e7 hk a
    refine Code.loop (Code.seq (Code.seq (Code.ops ?_)))
    simp only [s36_3, ↓wP, wS, Nat.reduceEqDiff, reduceIte, Nat.reduceLeDiff, and_self, cond_true, cond_false, Nat.reduceAdd, Nat.reduceMul, e0]
    refine ref_fits TT (hk.fzLt hf) a ok ic fun h3 k3 => ?_
    simp only [↓wP, wS, Nat.reduceEqDiff, reduceIte, Nat.reduceLeDiff, and_self, cond_true, cond_false, Nat.reduceAdd, Nat.reduceMul, hfit, Bool.not_true]
    refine Code.cond (t := false) (by simp only [↓wP, wS, Nat.reduceEqDiff, reduceIte, Nat.reduceLeDiff, and_self, cond_true, cond_false, Nat.reduceAdd, Nat.reduceMul]) (fun h => by cases h) (fun _ => Code.exit ?_)
    exact hq _ (by simp only [↓wP, wS, Nat.reduceEqDiff, reduceIte, Nat.reduceLeDiff, and_self, cond_true, cond_false, Nat.reduceAdd, Nat.reduceMul, e7]; rfl) (hk.trans (k3.weaken (fun _ _ hx => hx.elim))) (a.mono k3.old)
  | step n S S' ok ic sm hfit hne hix _ ih =>
    intro cnt s hc e0 e7 hk a hq
    obtain ⟨e, h2⟩ := s
    simp only at e0 e7 hk a
    have hlen2 : (area S).length ≤ 1000 := by rw [area_length]; exact ok.small
    refine Code.loop (Code.seq (Code.seq (Code.ops ?_)))
    simp only [s36_3, ↓wP, wS, Nat.reduceEqDiff, reduceIte, Nat.reduceLeDiff, and_self, cond_true, cond_false, Nat.reduceAdd, Nat.reduceMul, e0]
    refine ref_fits TT (hk.fzLt hf) a ok ic fun h3 k3 => ?_
    simp only [↓wP, wS, Nat.reduceEqDiff, reduceIte, Nat.reduceLeDiff, and_self, cond_true, cond_false, Nat.reduceAdd, Nat.reduceMul, hfit, Bool.not_false]
    have a3 := a.mono k3.old
    have k03 : Kp (· = bx) h h3 := hk.trans (k3.weaken (fun _ _ hx => hx.elim))
    refine Code.cond (t := true) (by simp only [↓wP, wS, Nat.reduceEqDiff, reduceIte, Nat.reduceLeDiff, and_self, cond_true, cond_false, Nat.reduceAdd, Nat.reduceMul]) (fun _ => Code.skip ?_) (fun h => by cases h)
    refine Code.block (Code.seq (Code.ops ?_))
    simp only [s36_4, ↓wP, wS, Nat.reduceEqDiff, reduceIte, Nat.reduceLeDiff, and_self, cond_true, cond_false, Nat.reduceAdd, Nat.reduceMul, e0]
    refine ref_places TT (k03.fzLt hf) a3 ok ic fun r h4 k4 hw4 => ?_
    obtain ⟨rb, rfl, w1, w2, w3⟩ := hw4
    simp only [↓wP, wS, Nat.reduceEqDiff, reduceIte, Nat.reduceLeDiff, and_self, cond_true, cond_false, Nat.reduceAdd, Nat.reduceMul]
    have a4 := a3.mono k4.old
    have k04 : Kp (· = bx) h h4 := k03.trans (k4.weaken (fun _ _ hx => hx.elim))
    have hw1 : w64 (((area S).length : Int) - 1) = ((area S).length - 1 : Nat) := by rw [w64_id (by omega) (by omega)]; omega
    have hp0 : ∀ n : Nat, (0 : Int) ≤ (n : Int) := fun n => by omega
    have hp2 : (((area S).length - 1 : Nat) : Int) < ((area S).length : Int) := by omega
    have hrd := rdT_id (i := (area S).length - 1) w3 (by omega)
    refine Code.seq (Code.ops ?_)
    simp only [s36_5, ↓wP, wS, Nat.reduceEqDiff, reduceIte, Nat.reduceLeDiff, and_self, cond_true, cond_false, Nat.reduceAdd, Nat.reduceMul, hw1, hp0, hp2, and_self, if_true, Int.toNat_natCast, Nat.add_zero, hrd]
    obtain ⟨x, y, z, hg4, root4⟩ := a4.cells
    have fin : ∀ e8 : Env, e8.get 0 = some (pt bx 0) → e8.get 7 = some (i64 cnt) → e8.get 9 = some (i64 (rlast S)) → Code F G (.seq (.ops s36_8) (.ops s36_9)) ⟨e8, h4⟩ (fun fl s' => fl = .next ∧ Code F G (.loop b36_10) s' Q) := by
      intro e8 q0 q7 q9
      refine Code.seq (Code.ops ?_)
      simp only [s36_8, ↓wP, wS, Nat.reduceEqDiff, reduceIte, Nat.reduceLeDiff, and_self, cond_true, cond_false, Nat.reduceAdd, Nat.reduceMul, q0, q9]
      refine ref_close TT (k04.fzLt hf) a4 ok ic sm (id := rlast S) (fun h1 h2 _ => hix h1 h2) (by rw [k04.fz]; exact hn) (fun b hb => hz b (Nat.le_trans k04.next hb)) fun h6 k6 a6 => ?_
      simp only [↓wP, wS, Nat.reduceEqDiff, reduceIte, Nat.reduceLeDiff, and_self, cond_true, cond_false, Nat.reduceAdd, Nat.reduceMul]
      refine Code.ops ?_
      have hw7 : w64 ((cnt : Int) + 1) = cnt + 1 := w64_id (by omega) (by omega)
      simp only [s36_9, ↓wP, wS, Nat.reduceEqDiff, reduceIte, Nat.reduceLeDiff, and_self, cond_true, cond_false, Nat.reduceAdd, Nat.reduceMul, q7, hw7]
      refine ⟨trivial, ih (cnt + 1) _ (by omega) (by simp only [↓wP, wS, Nat.reduceEqDiff, reduceIte, Nat.reduceLeDiff, and_self, cond_true, cond_false, Nat.reduceAdd, Nat.reduceMul, q0]) (by simp only [↓wP, wS, Nat.reduceEqDiff, reduceIte, Nat.reduceLeDiff, and_self, cond_true, cond_false, Nat.reduceAdd, Nat.reduceMul]; rfl) (k04.trans k6) a6 fun s' q7 kk aa => ?_⟩
      refine hq s' ?_ kk aa
      rw [q7]
      congr 2
      omega
    refine Code.seq (Code.seq (Code.ops ?_))
    simp only [s36_6, ↓wP, wS, Nat.reduceEqDiff, reduceIte, Nat.reduceLeDiff, and_self, cond_true, cond_false, Nat.reduceAdd, Nat.reduceMul, e0, rdT_of hg4]
    by_cases hh : idAt (area S) ((area S).length - 1) = S.here
    · have hw22 : w64 (((area S).length : Int) - 2) = ((area S).length - 2 : Nat) := by rw [w64_id (by omega) (by omega)]; omega
      have hp22 : (((area S).length - 2 : Nat) : Int) < ((area S).length : Int) := by omega
      have hrd2 := rdT_id (i := (area S).length - 2) w3 (by omega)
      have hrl : rlast S = idAt (area S) ((area S).length - 2) := by simp only [rlast, hh, if_true]
      refine Code.cond (t := true) (by simp only [↓wP, wS, Nat.reduceEqDiff, reduceIte, Nat.reduceLeDiff, and_self, cond_true, cond_false, Nat.reduceAdd, Nat.reduceMul, hh, decide_true]) (fun _ => Code.ops ?_) (fun h => by cases h)
      simp only [s36_7, ↓wP, wS, Nat.reduceEqDiff, reduceIte, Nat.reduceLeDiff, and_self, cond_true, cond_false, Nat.reduceAdd, Nat.reduceMul, hw22, hp0, hp22, and_self, if_true, Int.toNat_natCast, Nat.add_zero, hrd2]
      refine (fin _ (by simp only [↓wP, wS, Nat.reduceEqDiff, reduceIte, Nat.reduceLeDiff, and_self, cond_true, cond_false, Nat.reduceAdd, Nat.reduceMul, e0]) (by simp only [↓wP, wS, Nat.reduceEqDiff, reduceIte, Nat.reduceLeDiff, and_self, cond_true, cond_false, Nat.reduceAdd, Nat.reduceMul, e7]) (by simp only [↓wP, wS, Nat.reduceEqDiff, reduceIte, Nat.reduceLeDiff, and_self, cond_true, cond_false, Nat.reduceAdd, Nat.reduceMul, hrl])).mono fun fl s' hs => ?_
      obtain ⟨rfl, hs⟩ := hs
      exact hs
    · have hrl : rlast S = idAt (area S) ((area S).length - 1) := by simp only [rlast, hh, if_false]
      refine Code.cond (t := false) (by simp only [↓wP, wS, Nat.reduceEqDiff, reduceIte, Nat.reduceLeDiff, and_self, cond_true, cond_false, Nat.reduceAdd, Nat.reduceMul, hh, decide_false]) (fun h => by cases h) (fun _ => Code.skip ?_)
      refine (fin _ (by simp only [↓wP, wS, Nat.reduceEqDiff, reduceIte, Nat.reduceLeDiff, and_self, cond_true, cond_false, Nat.reduceAdd, Nat.reduceMul, e0]) (by simp only [↓wP, wS, Nat.reduceEqDiff, reduceIte, Nat.reduceLeDiff, and_self, cond_true, cond_false, Nat.reduceAdd, Nat.reduceMul, e7]) (by simp only [↓wP, wS, Nat.reduceEqDiff, reduceIte, Nat.reduceLeDiff, and_self, cond_true, cond_false, Nat.reduceAdd, Nat.reduceMul, hrl])).mono fun fl s' hs => ?_
      obtain ⟨rfl, hs⟩ := hs
      exact hs

theorem ref_resize (TT : Tab F G) {h : Hp} (hf : FzLt h) {Z : Nat → Prop} {bx : Nat} {S S' : LS} (a : RAt Z h bx S) (hn : bx ∉ h.fz) (hz : ∀ b, h.next ≤ b → Z b) {r c : Int} {n : Nat} (hn2 : n ≤ 1000) (hrl : RR n { S with rows := clampR r, cols := clampC c } S') {R : Value → Hp → Prop}
    (hr : ∀ h', Kp (· = bx) h h' → RAt Z h' bx S' → R (i64 n) h') : Call F G 36 [pt bx 0, i64 r, i64 c] h R := by
  refine Call.enter (TT.g _ _ (by decide)) TT.f36 (Nat.le_of_ble_eq_true rfl) ?_
  simp only [c36, envOf]
  refine Code.seq (Code.ops ?_)
  simp only [s36_0, ↓wP, wS, Nat.reduceEqDiff, reduceIte, Nat.reduceLeDiff, and_self, cond_true, cond_false, Nat.reduceAdd, Nat.reduceMul]
  refine Code.seq (Code.ops ?_)
  simp only [s36_1, ↓wP, wS, Nat.reduceEqDiff, reduceIte, Nat.reduceLeDiff, and_self, cond_true, cond_false, Nat.reduceAdd, Nat.reduceMul]
  refine ref_size TT a hn fun v h2 n2 k2 a2 => ?_
  simp only [↓wP, wS, Nat.reduceEqDiff, reduceIte, Nat.reduceLeDiff, and_self, cond_true, cond_false, Nat.reduceAdd, Nat.reduceMul]
  refine Code.seq (Code.ops ?_)
  simp only [s36_2, ↓wP, wS, Nat.reduceEqDiff, reduceIte, Nat.reduceLeDiff, and_self, cond_true, cond_false, Nat.reduceAdd, Nat.reduceMul]
  refine Code.seq (Code.block (ref_shrink TT hf hn hz hrl 0 _ (by omega) (by simp only [↓wP, wS, Nat.reduceEqDiff, reduceIte, Nat.reduceLeDiff, and_self, cond_true, cond_false, Nat.reduceAdd, Nat.reduceMul]) (by simp only [↓wP, wS, Nat.reduceEqDiff, reduceIte, Nat.reduceLeDiff, and_self, cond_true, cond_false, Nat.reduceAdd, Nat.reduceMul]; rfl) k2 a2 fun s' q7 kk aa => ?_))
  simp only [if_true]
  obtain ⟨e, h3⟩ := s'
  simp only at q7 kk aa
  rw [Nat.zero_add] at q7
  refine Code.seq (Code.ops ?_)
  simp only [s36_11, ↓wP, wS, Nat.reduceEqDiff, reduceIte, Nat.reduceLeDiff, and_self, cond_true, cond_false, Nat.reduceAdd, Nat.reduceMul, q7]
  refine Code.ret ?_
  simp only [resVs, resV, pack, ↓wP, wS, Nat.reduceEqDiff, reduceIte, Nat.reduceLeDiff, and_self, cond_true, cond_false, Nat.reduceAdd, Nat.reduceMul]
  exact ⟨trivial, _, rfl, hr _ kk aa⟩

/-! ### Same -/
theorem flat_same (w : Wn) : sBin .neq (.flat [1, 1, 1, 1, 1]) (.agg w.cells.toArray) (.agg w.cells.toArray) = some (.bool false) := by
  obtain ⟨a, b, c, d, e⟩ := w
  have hk : ∀ x, kindEq 1 (i64 x) (i64 x) = some true := fun x => by simp [kindEq]
  simp [sBin, eqV, primEqs, hk, Wn.cells]

theorem same_loop (TT : Tab F G) {h : Hp} {b1 b2 : Nat} {l : List Wn} {own1 own2 : Bool} (hl : l.length ≤ 1000) (hg1 : h.t.get b1 = some (.cells (wcells l) 5 own1)) (hg2 : h.t.get b2 = some (.cells (wcells l) 5 own2)) {Q : Flow → St → Prop} :
    ∀ (n i : Nat) (s : St), l.length = i + n → s.h = h → s.e.get 0 = some (sl b1 0 l.length 0) → s.e.get 1 = some (sl b2 0 l.length 0) → s.e.get 5 = some (i64 i) → (∀ s', s'.h = h → Q (.exit 0) s') → Code F G (.loop b13_8) s Q := by
  intro n
  induction n with
  | zero =>
    intro i s hn hh e0 e1 e5 hq
    obtain rfl : i = l.length := by omega
    obtain ⟨e, h2⟩ := s
    simp only at hh e0 e1 e5
    subst hh
    refine Code.loop (Code.seq (Code.seq (Code.ops ?_)))
    simp only [s13_4, ↓wP, wS, Nat.reduceEqDiff, reduceIte, Nat.reduceLeDiff, and_self, cond_true, cond_false, Nat.reduceAdd, Nat.reduceMul, e0, e5, Int.lt_irrefl, decide_false]
    refine Code.cond (t := false) (by simp only [↓wP, wS, Nat.reduceEqDiff, reduceIte, Nat.reduceLeDiff, and_self, cond_true, cond_false, Nat.reduceAdd, Nat.reduceMul]) (fun h => by cases h) (fun _ => Code.exit ?_)
    exact hq _ rfl
  | succ n ih =>
    intro i s hn hh e0 e1 e5 hq
    have hil : i < l.length := by omega
    have hw := List.getElem?_eq_getElem hil
    obtain ⟨e, h2⟩ := s
    simp only at hh e0 e1 e5
    subst hh
    have hlt : (i : Int) < (l.length : Int) := by omega
    have h0i : (0 : Int) ≤ (i : Int) := by omega
    have hw2 : w64 ((i : Int) + 1) = i + 1 := w64_id (by omega) (by omega)
    generalize l[i] = w at hw
    refine Code.loop (Code.seq (Code.seq (Code.ops ?_)))
    simp only [s13_4, ↓wP, wS, Nat.reduceEqDiff, reduceIte, Nat.reduceLeDiff, and_self, cond_true, cond_false, Nat.reduceAdd, Nat.reduceMul, e0, e5, hlt, decide_true]
    refine Code.cond (t := true) (by simp only [↓wP, wS, Nat.reduceEqDiff, reduceIte, Nat.reduceLeDiff, and_self, cond_true, cond_false, Nat.reduceAdd, Nat.reduceMul]) (fun _ => Code.skip ?_) (fun h => by cases h)
    refine Code.seq (Code.block (Code.seq (Code.draw ?_)))
    simp only [s13_5, ↓wP, wS, Nat.reduceEqDiff, reduceIte, Nat.reduceLeDiff, and_self, cond_true, cond_false, Nat.reduceAdd, Nat.reduceMul, ↓Draw.cons, dS, decide_true, decide_false, fzStep_load, e0, e1, e5, hlt, h0i, and_self, if_true, Int.toNat_natCast, rdN_w hg1 hw, rdN_w hg2 hw, flat_same]
    refine Code.cond (t := false) (by simp only [↓wP, wS, Nat.reduceEqDiff, reduceIte, Nat.reduceLeDiff, and_self, cond_true, cond_false, Nat.reduceAdd, Nat.reduceMul]) (fun h => by cases h) (fun _ => Code.skip ?_)
    refine Code.ops ?_
    simp only [s13_7, ↓wP, wS, Nat.reduceEqDiff, reduceIte, Nat.reduceLeDiff, and_self, cond_true, cond_false, Nat.reduceAdd, Nat.reduceMul, e5, hw2]
    exact ih (i + 1) _ (by omega) rfl (by simp only [↓wP, wS, Nat.reduceEqDiff, reduceIte, Nat.reduceLeDiff, and_self, cond_true, cond_false, Nat.reduceAdd, Nat.reduceMul, e0]) (by simp only [↓wP, wS, Nat.reduceEqDiff, reduceIte, Nat.reduceLeDiff, and_self, cond_true, cond_false, Nat.reduceAdd, Nat.reduceMul, e1]) (by simp only [↓wP, wS, Nat.reduceEqDiff, reduceIte, Nat.reduceLeDiff, and_self, cond_true, cond_false, Nat.reduceAdd, Nat.reduceMul]; rfl) hq

theorem same_call (TT : Tab F G) {h : Hp} {b1 b2 : Nat} {l : List Wn} {own1 own2 : Bool} (hl : l.length ≤ 1000) (hg1 : h.t.get b1 = some (.cells (wcells l) 5 own1)) (hg2 : h.t.get b2 = some (.cells (wcells l) 5 own2)) {R : Value → Hp → Prop}
    (hr : R (.bool true) h) : Call F G 13 [sl b1 0 l.length 0, sl b2 0 l.length 0] h R := by
  refine Call.enter (TT.g _ _ (by decide)) TT.f13 (Nat.le_of_ble_eq_true rfl) ?_
  simp only [c13, envOf]
  refine Code.seq (Code.ops ?_)
  simp only [s13_0, ↓wP, wS, Nat.reduceEqDiff, reduceIte, Nat.reduceLeDiff, and_self, cond_true, cond_false, Nat.reduceAdd, Nat.reduceMul]
  refine Code.seq (Code.seq (Code.ops ?_))
  have hne : decide ((l.length : Int) ≠ (l.length : Int)) = false := by simp
  simp only [s13_1, ↓wP, wS, Nat.reduceEqDiff, reduceIte, Nat.reduceLeDiff, and_self, cond_true, cond_false, Nat.reduceAdd, Nat.reduceMul, hne]
  refine Code.cond (t := false) (by simp only [↓wP, wS, Nat.reduceEqDiff, reduceIte, Nat.reduceLeDiff, and_self, cond_true, cond_false, Nat.reduceAdd, Nat.reduceMul]) (fun h => by cases h) (fun _ => Code.skip ?_)
  refine Code.seq (Code.seq (Code.ops ?_))
  simp only [s13_3, ↓wP, wS, Nat.reduceEqDiff, reduceIte, Nat.reduceLeDiff, and_self, cond_true, cond_false, Nat.reduceAdd, Nat.reduceMul]
  refine Code.block (same_loop TT (h := h) hl hg1 hg2 l.length 0 _ (by omega) rfl (by simp only [↓wP, wS, Nat.reduceEqDiff, reduceIte, Nat.reduceLeDiff, and_self, cond_true, cond_false, Nat.reduceAdd, Nat.reduceMul]) (by simp only [↓wP, wS, Nat.reduceEqDiff, reduceIte, Nat.reduceLeDiff, and_self, cond_true, cond_false, Nat.reduceAdd, Nat.reduceMul]) (by simp only [↓wP, wS, Nat.reduceEqDiff, reduceIte, Nat.reduceLeDiff, and_self, cond_true, cond_false, Nat.reduceAdd, Nat.reduceMul]; rfl) fun s' hs => ?_)
  simp only [if_true]
  obtain ⟨e, h2⟩ := s'
  simp only at hs
  subst hs
  refine Code.seq (Code.ops ?_)
  simp only [s13_9, ↓wP, wS, Nat.reduceEqDiff, reduceIte, Nat.reduceLeDiff, and_self, cond_true, cond_false, Nat.reduceAdd, Nat.reduceMul]
  refine Code.ret ?_
  simp only [resVs, resV, pack, ↓wP, wS, Nat.reduceEqDiff, reduceIte, Nat.reduceLeDiff, and_self, cond_true, cond_false, Nat.reduceAdd, Nat.reduceMul]
  exact ⟨trivial, _, rfl, hr⟩
end
end Go.Eng
