/- The document's tree: Split, Close, Only, Focus, Go, Resize; Same. -/
import Derived.Test.YtdafdampodbobaaSeatRefG
namespace Go.Eng
set_option linter.unusedSimpArgs false
set_option linter.unusedVariables false

def rsplitT (S : LS) (side : Bool) : Tr := plainT (putT S.here (pairG S side) S.tree)
def rsplitS (S : LS) (side : Bool) : LS := if splitOk S (rsplitT S side) = true then { S with tree := rsplitT S side, last := w64 (S.last + 1), here := w64 (S.last + 1) } else S
def rsplitA (S : LS) (side : Bool) : Value := if splitOk S (rsplitT S side) = true then .tuple #[i64 (w64 (S.last + 1)), i64 0] else .tuple #[i64 0, i64 33]

def rcloseT (S : LS) (id : Int) : Tr := plainT (putT id (.win 0) S.tree)
def rcloseS (S : LS) (id : Int) : LS :=
  if idxId (area S) id < 0 then S
  else if (area S).length = 1 then S
  else if id = S.here then { S with tree := rcloseT S id, here := idAt (area (setTree S (rcloseT S id))) (pred (idxId (area S) id)).toNat } else { S with tree := rcloseT S id }
def rcloseA (S : LS) (id : Int) : Int :=
  if idxId (area S) id < 0 then 4
  else if (area S).length = 1 then 33 else 0

def rgoI (n : Nat) (at' by' : Int) : Int := (w64 (w64 (at' + by'.tmod n) + n)).tmod n
def rgoS (S : LS) (by' : Int) : LS := { S with here := idAt (area S) (rgoI (area S).length (idxId (area S) S.here) by').toNat }

def rlast (S : LS) : Int := if idAt (area S) ((area S).length - 1) = S.here then idAt (area S) ((area S).length - 2) else idAt (area S) ((area S).length - 1)

inductive RR : Nat → LS → LS → Prop where
  | stop (S : LS) (ok : LOk S) (ic : InR S.cols) (hf : fitsL (area S) = true) : RR 0 S S
  | step (n : Nat) (S S' : LS) (ok : LOk S) (ic : InR S.cols) (sm : (ids S.tree).length ≤ 500) (hf : fitsL (area S) = false) (hne : 2 ≤ (area S).length)
      (hix : rlast S = S.here → ¬ idxId (area S) (rlast S) < 0 → (pred (idxId (area S) (rlast S))).toNat < (area (setTree S (rcloseT S (rlast S)))).length)
      (rest : RR n (rcloseS S (rlast S)) S') : RR (n + 1) S S'

theorem pred_range (i : Int) : 0 ≤ pred i := by unfold pred; split <;> omega

section
variable {F : FuncId → Option SFunc} {G : FuncId → List Value → Option Value}

theorem NAt.fz {Z : Nat → Prop} {h : Hp} {f : List Nat} {n : List Value} {t : Tr} (a : NAt Z h n t) : NAt Z ⟨h.t, h.next, f⟩ n t := a.move (h := h) (h' := ⟨h.t, h.next, f⟩) (Nat.le_refl _) (fun _ _ _ => rfl) (fun _ _ hz => hz)

theorem rpair_good (S : LS) (side : Bool) : Good (pairG S side) := by simp [pairG, Good, Goods]
theorem rpair_len (S : LS) (side : Bool) : (ids (pairG S side)).length = 2 := by simp [pairG, ids, idss]

theorem put_plain (id : Int) (x : Tr) (hx : Good x) (hxl : (ids x).length ≤ 2) (t : Tr) (hg : Good t) (hs : (ids t).length ≤ 500) : Good (putT id x t) ∧ (ids (putT id x t)).length ≤ 1000 ∧ Good (plainT (putT id x t)) ∧ (ids (plainT (putT id x t))).length ≤ 1000 := by
  have h1 := putT_good id x hx t hg
  have h2 := putT_len id x hxl t
  have h3 := plainT_good _ h1
  exact ⟨h1, by omega, h3.1, by omega⟩

theorem ref_split (TT : Tab F G) {h : Hp} (hf : FzLt h) {Z : Nat → Prop} {bx : Nat} {S : LS} (a : RAt Z h bx S) (ok : LOk S) (ic : InR S.cols) (hsm : (ids S.tree).length ≤ 500) {side : Bool} (hn : bx ∉ h.fz) (hz : ∀ b, h.next ≤ b → Z b) {R : Value → Hp → Prop}
    (hr : ∀ h', Kp (· = bx) h h' → RAt Z h' bx (rsplitS S side) → R (rsplitA S side) h') : Call F G 31 [pt bx 0, .bool side] h R := by
  obtain ⟨x, y, z, hg, hroot⟩ := a.cells
  have lt := a.lt
  have nz := a.nz
  have hroot0 := hroot.three
  refine Call.enter (TT.g _ _ (by decide)) TT.f31 (Nat.le_of_ble_eq_true rfl) ?_
  simp only [c31, envOf]
  refine Code.seq (Code.ops ?_)
  simp only [s31_0, ↓wP, wS, Nat.reduceEqDiff, reduceIte, Nat.reduceLeDiff, and_self, cond_true, cond_false, Nat.reduceAdd, Nat.reduceMul]
  refine Code.seq (Code.ops ?_)
  simp only [s31_1, ↓wP, wS, Nat.reduceEqDiff, reduceIte, Nat.reduceLeDiff, and_self, cond_true, cond_false, Nat.reduceAdd, Nat.reduceMul]
  have main : ∀ e : Env, e.get 0 = some (pt bx 0) → e.get 6 = some (i64 (kindV side)) →
      Code F G (.seq (.ops s31_4) (.seq (.draw s31_5) (.seq (.seq (.ops s31_6) (.cond (.t 48) (.seq (.ops s31_7) (.seq (.ops s31_8) (.ret))) (.skip))) (.seq (.ops s31_9) (.seq (.ops s31_10) (.seq (.ops s31_11) (.ret))))))) ⟨e, h⟩
        fun fl s => (match fl with | .exit _ => False | _ => True) ∧ ∃ vs, resVs s.e s.h [.tmp 4, .tmp 5] = some vs ∧ R (pack vs) s.h := by
    intro e q0 q6
    refine Code.seq (Code.ops ?_)
    have r3 := rdN_of (n := 3) (o := 0) hg (by simp)
    simp only [s31_4, ↓wP, wS, Nat.reduceEqDiff, reduceIte, Nat.reduceLeDiff, and_self, cond_true, cond_false, Nat.reduceAdd, Nat.reduceMul, q0, r3]
    refine NewQ.intro fun p7 h1 e1 n1 g1 k1 => ?_
    simp only [↓wP, wS, Nat.reduceEqDiff, reduceIte, Nat.reduceLeDiff, and_self, cond_true, cond_false, Nat.reduceAdd, Nat.reduceMul]
    refine StoreQ.agg hroot0.2 rfl g1 (by simp) (by rw [k1.fz]; exact hf.not_mem (by omega)) fun h2 n2 g2 k2 => ?_
    simp only [↓wP, wS, Nat.reduceEqDiff, reduceIte, Nat.reduceLeDiff, and_self, cond_true, cond_false, Nat.reduceAdd, Nat.reduceMul] at g2 ⊢
    have k02 : K0 h h2 := k1.andThen k2 (fun x hx hl => by omega)
    have hg2 := k02.keep lt (fun x => x) hg
    refine Code.seq (Code.draw ?_)
    have r32 := rdN_of (n := 3) (o := 0) hg2 (by simp)
    simp only [s31_5, ↓wP, wS, Nat.reduceEqDiff, reduceIte, Nat.reduceLeDiff, and_self, cond_true, cond_false, Nat.reduceAdd, Nat.reduceMul, ↓Draw.cons, dS, decide_true, decide_false, fzStep_load, q0, q6, rdT_of hg2, r32]
    refine NewQ.intro fun pk h5 e5 n5 g5 k5 => ?_
    have o5 := k5.old'
    simp only at e5 n5
    simp only [↓wP, wS, Nat.reduceEqDiff, reduceIte, Nat.reduceLeDiff, and_self, cond_true, cond_false, Nat.reduceAdd, Nat.reduceMul, ↓Draw.cons, dS, decide_true, decide_false]
    have nx2 := k02.next
    have T5 : NAt (fun b => Z b ∧ b < h5.next) h5 [i64 (kindV side), i64 0, sl pk 0 2 0] (pairG S side) := by
      refine .grp side pk _ _ [[i64 0, i64 S.here, .slice none 0 0], [i64 0, i64 (w64 (S.last + 1)), .slice none 0 0]] _ (by omega) ⟨hz pk (by omega), by omega⟩ g5 rfl fun i n t hi ht => ?_
      match i with
      | 0 => simp at hi ht; subst hi; subst ht; exact .win _
      | 1 => simp at hi ht; subst hi; subst ht; exact .win _
      | i + 2 => simp at hi
    have root5 : NAt (fun b => Z b ∧ b < h5.next) h5 [x, y, z] S.tree := by
      refine hroot.move (by omega) (fun b hb _ => (o5.get b (by omega)).trans (k02.get b hb (fun x => x))) (fun b hb hz' => ⟨hz', by omega⟩)
    obtain ⟨pg1, pl1, pg2, pl2⟩ := put_plain S.here (pairG S side) (rpair_good S side) (by rw [rpair_len]; exact Nat.le_refl _) S.tree ok.good hsm
    have hfm : ∀ b, b ∈ h2.fz → b < h2.next := k02.fzLt hf
    refine put_all TT (Z := fun b => Z b ∧ b < h5.next) (h0 := ⟨h5.t, h5.next, bx :: bx :: h2.fz⟩) (fun b hb => hb.2) (x := pairG S side) T5.fz (t := S.tree) root5.fz ok.good ok.small _ _ ⟨Nat.le_refl _, fun _ _ => rfl⟩ (fun b hb => ?_) fun n6 h6 k6 hn6 => ?_
    · simp only [List.mem_cons] at hb ⊢
      rcases hb with rfl | rfl | hb
      · omega
      · omega
      · have := hfm b hb; omega
    have o6 := k6.old'
    simp only [↓wP, wS, Nat.reduceEqDiff, reduceIte, Nat.reduceLeDiff, and_self, cond_true, cond_false, Nat.reduceAdd, Nat.reduceMul, ↓Draw.cons, dS, decide_true, decide_false]
    have n6' : NAt (fun b => (OrNew (fun b => Z b ∧ b < h5.next) h5.next b) ∧ b < h6.next) h6 n6 (putT S.here (pairG S side) S.tree) := hn6.move (Nat.le_refl _) (fun _ _ _ => rfl) (fun b hb hz' => ⟨hz', hb⟩)
    have nx6 := o6.next
    refine plain_all TT (Z := fun b => (OrNew (fun b => Z b ∧ b < h5.next) h5.next b) ∧ b < h6.next) (h0 := ⟨h6.t, h6.next, bx :: bx :: h2.fz⟩) (fun b hb => hb.2) n6'.fz pg1 pl1 _ _ ⟨Nat.le_refl _, fun _ _ => rfl⟩ (fun b hb => ?_) fun n7 h7 k7 hn7 => ?_
    · simp only [List.mem_cons] at hb ⊢
      rcases hb with rfl | rfl | hb
      · omega
      · omega
      · have := hfm b hb; omega
    have o7 := k7.old'
    have nx7 := o7.next
    simp only [↓wP, wS, Nat.reduceEqDiff, reduceIte, Nat.reduceLeDiff, and_self, cond_true, cond_false, Nat.reduceAdd, Nat.reduceMul, ↓Draw.cons, dS, decide_true, decide_false, q0]
    have n73 := hn7.three
    have o27 := (o5.trans o6).trans o7
    have hg7 := (o27.get bx (by omega)).trans hg2
    refine StoreQ.agg (h := ⟨h7.t, h7.next, h2.fz⟩) n73.2 n73.1 hg7 (by simp) (by show bx ∉ h2.fz; rw [k02.fz]; exact hn) fun h8 n8 g8 k8 => ?_
    simp only at n8
    obtain ⟨x7, y7, z7, rfl⟩ := three_eq n73.1
    simp only [↓wP, wS, Nat.reduceEqDiff, reduceIte, Nat.reduceLeDiff, and_self, cond_true, cond_false, Nat.reduceAdd, Nat.reduceMul, ↓Draw.cons, dS, decide_true, decide_false] at g8 ⊢
    have zlow : ∀ b, b < h7.next → OrNew (fun b => (OrNew (fun b => Z b ∧ b < h5.next) h5.next b) ∧ b < h6.next) h6.next b → Z b := fun b _ hz' => by
      rcases hz' with hz' | hz'
      · rcases hz'.1 with h1 | h1
        · exact h1.1
        · exact hz b (by omega)
      · exact hz b (by omega)
    have fz8 : h8.fz = h.fz := (show h8.fz = h2.fz from k8.fz).trans k02.fz
    have k08 : Kp (· = bx) h ⟨h8.t, h8.next, h2.fz⟩ := ⟨by simp only; omega, fun b hb hx => (k8.get b (by simp only; omega) hx).trans ((o27.get b (by omega)).trans (k02.get b hb (fun x => x))), k02.fz⟩
    have L8 : RAt Z ⟨h8.t, h8.next, h2.fz⟩ bx (setTree S (rsplitT S side)) := by
      refine ⟨show bx < h8.next by omega, nz, [x7, y7, z7], g8, ?_⟩
      refine NAt.move (h := h7) (h' := ⟨h8.t, h8.next, h2.fz⟩) (show h7.next ≤ h8.next by omega) (fun b hb hz' => k8.get b hb (fun hx => nz (hx ▸ zlow b hb hz'))) zlow hn7
    have ok8 : LOk (setTree S (rsplitT S side)) := ⟨pg2, pl2⟩
    have hf8 : FzLt ⟨h8.t, h8.next, h2.fz⟩ := k08.fzLt hf
    have g28 : h8.t.get p7 = some (.cells [x, y, z] 0 true) := by
      rw [k8.get p7 (by simp only; omega) (by omega), o27.get p7 (by omega), g2]
    have back : splitOk S (rsplitT S side) = false → ∀ (e8 : Env) (h9 : Hp), K0 ⟨h8.t, h8.next, h2.fz⟩ h9 → e8.get 0 = some (pt bx 0) → e8.get 7 = some (pt p7 0) →
        Code F G (.seq (.ops s31_7) (.seq (.ops s31_8) .ret)) ⟨e8, h9⟩ fun fl s => fl = .ret ∧ ∃ vs, resVs s.e s.h [.tmp 4, .tmp 5] = some vs ∧ R (pack vs) s.h := by
      intro hno e8 h9 k9 w0 w7
      have g9 := k9.keep (by simp only; omega) (fun x => x) g8
      have g29 := k9.keep (by simp only; omega) (fun x => x) g28
      have r39 := rdN_of (n := 3) (o := 0) g29 (by simp)
      refine Code.seq (Code.ops ?_)
      simp only [s31_7, ↓wP, wS, Nat.reduceEqDiff, reduceIte, Nat.reduceLeDiff, and_self, cond_true, cond_false, Nat.reduceAdd, Nat.reduceMul, w0, w7, r39]
      refine StoreQ.agg hroot0.2 rfl g9 (by simp) (by rw [k9.fz]; show bx ∉ h2.fz; rw [k02.fz]; exact hn) fun h10 n10 g10 k10 => ?_
      simp only [↓wP, wS, Nat.reduceEqDiff, reduceIte, Nat.reduceLeDiff, and_self, cond_true, cond_false, Nat.reduceAdd, Nat.reduceMul] at g10 ⊢
      refine Code.seq (Code.ops ?_)
      simp only [s31_8, ↓wP, wS, Nat.reduceEqDiff, reduceIte, Nat.reduceLeDiff, and_self, cond_true, cond_false, Nat.reduceAdd, Nat.reduceMul]
      refine Code.ret ?_
      simp only [resVs, resV, pack, ↓wP, wS, Nat.reduceEqDiff, reduceIte, Nat.reduceLeDiff, and_self, cond_true, cond_false, Nat.reduceAdd, Nat.reduceMul]
      simp only [rsplitS, rsplitA, hno, Bool.false_eq_true, if_false] at hr
      have k010 : Kp (· = bx) h h10 := (k08.trans (k9.weaken (fun _ _ hx => hx.elim))).trans k10
      exact ⟨trivial, _, rfl, hr _ k010 ⟨Nat.lt_of_lt_of_le lt k010.next, nz, [x, y, z], g10, hroot.keep k010 (fun b hb => by rw [hb]; exact nz)⟩⟩
    have on : splitOk S (rsplitT S side) = true → ∀ (e8 : Env) (h9 : Hp), K0 ⟨h8.t, h8.next, h2.fz⟩ h9 → e8.get 0 = some (pt bx 0) →
        Code F G (.seq (.ops s31_9) (.seq (.ops s31_10) (.seq (.ops s31_11) .ret))) ⟨e8, h9⟩ fun fl s => (match fl with | .exit _ => False | _ => True) ∧ ∃ vs, resVs s.e s.h [.tmp 4, .tmp 5] = some vs ∧ R (pack vs) s.h := by
      intro hyes e8 h9 k9 w0
      have g9 := k9.keep (by simp only; omega) (fun x => x) g8
      have L9 := L8.mono k9.old
      have hn9 : bx ∉ h9.fz := by rw [k9.fz]; show bx ∉ h2.fz; rw [k02.fz]; exact hn
      refine Code.seq (Code.ops ?_)
      simp only [s31_9, ↓wP, wS, Nat.reduceEqDiff, reduceIte, Nat.reduceLeDiff, and_self, cond_true, cond_false, Nat.reduceAdd, Nat.reduceMul, w0, rdT_of g9]
      refine StoreQ.one rfl g9 (by simp) hn9 fun h10 n10 g10 k10 => ?_
      simp only [↓wP, wS, Nat.reduceEqDiff, reduceIte, Nat.reduceLeDiff, and_self, cond_true, cond_false, Nat.reduceAdd, Nat.reduceMul] at g10 ⊢
      refine Code.seq (Code.ops ?_)
      simp only [s31_10, ↓wP, wS, Nat.reduceEqDiff, reduceIte, Nat.reduceLeDiff, and_self, cond_true, cond_false, Nat.reduceAdd, Nat.reduceMul, w0, rdT_of g10]
      refine StoreQ.one rfl g10 (by simp) (by rw [k10.fz]; exact hn9) fun h11 n11 g11 k11 => ?_
      simp only [↓wP, wS, Nat.reduceEqDiff, reduceIte, Nat.reduceLeDiff, and_self, cond_true, cond_false, Nat.reduceAdd, Nat.reduceMul] at g11 ⊢
      refine Code.seq (Code.ops ?_)
      simp only [s31_11, ↓wP, wS, Nat.reduceEqDiff, reduceIte, Nat.reduceLeDiff, and_self, cond_true, cond_false, Nat.reduceAdd, Nat.reduceMul, w0, rdT_of g11]
      refine Code.ret ?_
      simp only [resVs, resV, pack, ↓wP, wS, Nat.reduceEqDiff, reduceIte, Nat.reduceLeDiff, and_self, cond_true, cond_false, Nat.reduceAdd, Nat.reduceMul]
      simp only [rsplitS, rsplitA, hyes, if_true] at hr
      have k011 : Kp (· = bx) h h11 := ((k08.trans (k9.weaken (fun _ _ hx => hx.elim))).trans k10).trans k11
      obtain ⟨x9, y9, z9, gg9, root9⟩ := L9.cells
      rw [g9] at gg9
      cases gg9
      exact ⟨trivial, _, rfl, hr _ k011 ⟨Nat.lt_of_lt_of_le lt k011.next, nz, [x7, y7, z7], g11, (root9.keep k10 (fun b hb => by rw [hb]; exact nz)).keep k11 (fun b hb => by rw [hb]; exact nz)⟩⟩
    refine Code.seq (Code.seq (Code.ops ?_))
    simp only [s31_6, ↓wP, wS, Nat.reduceEqDiff, reduceIte, Nat.reduceLeDiff, and_self, cond_true, cond_false, Nat.reduceAdd, Nat.reduceMul, q0]
    refine ref_places TT hf8 L8 ok8 ic fun r9 h9 k9 hw9 => ?_
    obtain ⟨rb9, rfl, w1, w2, w3⟩ := hw9
    by_cases h16 : (16 : Int) < ((area (setTree S (rsplitT S side))).length : Int)
    · have hno : splitOk S (rsplitT S side) = false := by simp [splitOk, h16]
      simp only [↓wP, wS, Nat.reduceEqDiff, reduceIte, Nat.reduceLeDiff, and_self, cond_true, cond_false, Nat.reduceAdd, Nat.reduceMul, h16, decide_true]
      refine Code.cond (t := true) (by simp only [↓wP, wS, Nat.reduceEqDiff, reduceIte, Nat.reduceLeDiff, and_self, cond_true, cond_false, Nat.reduceAdd, Nat.reduceMul]) (fun _ => ?_) (fun h => by cases h)
      refine (back hno _ h9 k9 (by simp only [↓wP, wS, Nat.reduceEqDiff, reduceIte, Nat.reduceLeDiff, and_self, cond_true, cond_false, Nat.reduceAdd, Nat.reduceMul, q0]) (by simp only [↓wP, wS, Nat.reduceEqDiff, reduceIte, Nat.reduceLeDiff, and_self, cond_true, cond_false, Nat.reduceAdd, Nat.reduceMul])).mono fun fl s hs => ?_
      obtain ⟨rfl, hs⟩ := hs
      exact ⟨trivial, hs⟩
    · simp only [↓wP, wS, Nat.reduceEqDiff, reduceIte, Nat.reduceLeDiff, and_self, cond_true, cond_false, Nat.reduceAdd, Nat.reduceMul, h16, decide_false, q0]
      refine ref_fits TT (k9.fzLt hf8) (L8.mono k9.old) ok8 ic fun h10 k10 => ?_
      simp only [↓wP, wS, Nat.reduceEqDiff, reduceIte, Nat.reduceLeDiff, and_self, cond_true, cond_false, Nat.reduceAdd, Nat.reduceMul, h16, decide_false]
      have hsk : splitOk S (rsplitT S side) = fitsL (area (setTree S (rsplitT S side))) := by simp [splitOk, h16]
      refine Code.cond (t := !fitsL (area (setTree S (rsplitT S side)))) (by simp only [↓wP, wS, Nat.reduceEqDiff, reduceIte, Nat.reduceLeDiff, and_self, cond_true, cond_false, Nat.reduceAdd, Nat.reduceMul]) (fun hx => ?_) (fun hx => ?_)
      · have hno : splitOk S (rsplitT S side) = false := by rw [hsk]; simpa using hx
        refine (back hno _ h10 (k9.trans k10) (by simp only [↓wP, wS, Nat.reduceEqDiff, reduceIte, Nat.reduceLeDiff, and_self, cond_true, cond_false, Nat.reduceAdd, Nat.reduceMul, q0]) (by simp only [↓wP, wS, Nat.reduceEqDiff, reduceIte, Nat.reduceLeDiff, and_self, cond_true, cond_false, Nat.reduceAdd, Nat.reduceMul])).mono fun fl s hs => ?_
        obtain ⟨rfl, hs⟩ := hs
        exact ⟨trivial, hs⟩
      · have hyes : splitOk S (rsplitT S side) = true := by rw [hsk]; simpa using hx
        refine Code.skip ?_
        exact on hyes _ h10 (k9.trans k10) (by simp only [↓wP, wS, Nat.reduceEqDiff, reduceIte, Nat.reduceLeDiff, and_self, cond_true, cond_false, Nat.reduceAdd, Nat.reduceMul, q0])
  refine Code.seq (Code.seq (Code.ops ?_))
  simp only [s31_2, ↓wP, wS, Nat.reduceEqDiff, reduceIte, Nat.reduceLeDiff, and_self, cond_true, cond_false, Nat.reduceAdd, Nat.reduceMul]
  cases side with
  | true =>
    refine Code.cond (t := true) (by simp only [↓wP, wS, Nat.reduceEqDiff, reduceIte, Nat.reduceLeDiff, and_self, cond_true, cond_false, Nat.reduceAdd, Nat.reduceMul]) (fun _ => Code.ops ?_) (fun h => by cases h)
    simp only [s31_3, ↓wP, wS, Nat.reduceEqDiff, reduceIte, Nat.reduceLeDiff, and_self, cond_true, cond_false, Nat.reduceAdd, Nat.reduceMul]
    exact main _ (by simp only [↓wP, wS, Nat.reduceEqDiff, reduceIte, Nat.reduceLeDiff, and_self, cond_true, cond_false, Nat.reduceAdd, Nat.reduceMul]) (by simp only [↓wP, wS, Nat.reduceEqDiff, reduceIte, Nat.reduceLeDiff, and_self, cond_true, cond_false, Nat.reduceAdd, Nat.reduceMul]; rfl)
  | false =>
    refine Code.cond (t := false) (by simp only [↓wP, wS, Nat.reduceEqDiff, reduceIte, Nat.reduceLeDiff, and_self, cond_true, cond_false, Nat.reduceAdd, Nat.reduceMul]) (fun h => by cases h) (fun _ => Code.skip ?_)
    exact main _ (by simp only [↓wP, wS, Nat.reduceEqDiff, reduceIte, Nat.reduceLeDiff, and_self, cond_true, cond_false, Nat.reduceAdd, Nat.reduceMul]) (by simp only [↓wP, wS, Nat.reduceEqDiff, reduceIte, Nat.reduceLeDiff, and_self, cond_true, cond_false, Nat.reduceAdd, Nat.reduceMul]; rfl)
end
end Go.Eng
