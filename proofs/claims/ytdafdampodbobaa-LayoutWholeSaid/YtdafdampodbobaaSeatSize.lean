/- Resize of the program's tree. -/
import Derived.Test.YtdafdampodbobaaSeatDel
namespace Go.Eng
set_option linter.unusedSimpArgs false
set_option linter.unusedVariables false

def others (S : LS) : List Wn := keepL (fun w => decide (w.id = S.here)) (area S)
def lastId (S : LS) : Int := idAt (others S) ((others S).length - 1)

/-- Windows are closed as long as they do not fit: n of them. -/
inductive RL : Nat → LS → LS → Prop where
  | stop (S : LS) (ok : LOk S) (hf : fitsL (area S) = true) : RL 0 S S
  | step (n : Nat) (S S' : LS) (ok : LOk S) (sm : (ids S.tree).length ≤ 500) (hf : fitsL (area S) = false) (hne : 0 < (others S).length)
      (hix : ∀ t ts, wth (lastId S) [] S.tree = t :: ts → lastId S = S.here → ¬ idxId (area S) (lastId S) < 0 → (pred (idxId (area S) (lastId S))).toNat < (area (setTree S t)).length)
      (rest : RL n (closeS S (lastId S)) S') : RL (n + 1) S S'

theorem rdT_id' {t : T AObj} {b : Nat} {l : List Wn} {rest : List Value} {own : Bool} {i : Nat} (hb : t.get b = some (.cells (wcells l ++ rest) 5 own)) (hi : i < l.length) : rdT t b (i * 5) = some (i64 (idAt l i)) := by
  have hw := List.getElem?_eq_getElem hi
  obtain ⟨q1, q2⟩ := wcells_at _ _ _ hw
  rw [rdT_of hb, List.getElem?_append_left (by omega)]
  have := congrArg (·[0]?) q1
  simp only [idAt, hw]
  simpa [Wn.cells] using this

section
variable {F : FuncId → Option SFunc} {G : FuncId → List Value → Option Value}

theorem shrink_loop (TT : Tab F G) {h : Hp} (hf : FzLt h) {Z : Nat → Prop} {bt pb : Nat} (hn : bt ∉ h.fz) (hbt : bt < h.next) (hz : ∀ b, h.next ≤ b → Z b) (hpb : h.next ≤ pb) {Q : Flow → St → Prop} :
    ∀ {n : Nat} {S S' : LS}, RL n S S' → ∀ (cnt : Nat) (s : St), cnt + n ≤ 1000000 → s.e.get 3 = some (pt pb 0) → s.e.get 7 = some (i64 cnt) → Kp (· = bt) h s.h → LAt Z s.h bt S → pb < s.h.next → s.h.t.get pb = some (.cells [pt bt 0] 0 true) →
      (∀ s', s'.e.get 7 = some (i64 (cnt + n : Nat)) → Kp (· = bt) h s'.h → LAt Z s'.h bt S' → Q (.exit 0) s') → Code F G (.loop b24_9) s Q := by
  intro n S S' hrl
  induction hrl with
  | stop S ok hfit =>
    intro cnt s hc e3 e7 hk a hpl gp hq
    obtain ⟨e, h2⟩ := s
    simp only at e3 e7 hk a hpl gp
    refine Code.loop (Code.seq (Code.seq (Code.ops ?_)))
    simp only [s24_5, ↓wP, wS, Nat.reduceEqDiff, reduceIte, Nat.reduceLeDiff, and_self, cond_true, cond_false, Nat.reduceAdd, Nat.reduceMul, e3, rdT_of gp]
    refine fits_call TT (hk.fzLt hf) a ok fun h3 k3 => ?_
    simp only [↓wP, wS, Nat.reduceEqDiff, reduceIte, Nat.reduceLeDiff, and_self, cond_true, cond_false, Nat.reduceAdd, Nat.reduceMul, hfit, Bool.not_true]
    refine Code.cond (t := false) (by simp only [↓wP, wS, Nat.reduceEqDiff, reduceIte, Nat.reduceLeDiff, and_self, cond_true, cond_false, Nat.reduceAdd, Nat.reduceMul]) (fun h => by cases h) (fun _ => Code.exit ?_)
    exact hq _ (by simp only [↓wP, wS, Nat.reduceEqDiff, reduceIte, Nat.reduceLeDiff, and_self, cond_true, cond_false, Nat.reduceAdd, Nat.reduceMul, e7]; rfl) (hk.trans (k3.weaken (fun _ _ hx => hx.elim))) (a.mono k3.old)
  | step n S S' ok sm hfit hne hix _ ih =>
    intro cnt s hc e3 e7 hk a hpl gp hq
    obtain ⟨e, h2⟩ := s
    simp only at e3 e7 hk a hpl gp
    refine Code.loop (Code.seq (Code.seq (Code.ops ?_)))
    simp only [s24_5, ↓wP, wS, Nat.reduceEqDiff, reduceIte, Nat.reduceLeDiff, and_self, cond_true, cond_false, Nat.reduceAdd, Nat.reduceMul, e3, rdT_of gp]
    refine fits_call TT (hk.fzLt hf) a ok fun h3 k3 => ?_
    simp only [↓wP, wS, Nat.reduceEqDiff, reduceIte, Nat.reduceLeDiff, and_self, cond_true, cond_false, Nat.reduceAdd, Nat.reduceMul, hfit, Bool.not_false]
    have gp3 := k3.keep hpl (fun x => x) gp
    have a3 := a.mono k3.old
    have hf3 := k3.fzLt (hk.fzLt hf)
    have fz3 : h3.fz = h.fz := by rw [k3.fz, hk.fz]
    refine Code.cond (t := true) (by simp only [↓wP, wS, Nat.reduceEqDiff, reduceIte, Nat.reduceLeDiff, and_self, cond_true, cond_false, Nat.reduceAdd, Nat.reduceMul]) (fun _ => Code.skip ?_) (fun h => by cases h)
    refine Code.seq (Code.block (Code.seq (Code.ops ?_)))
    simp only [s24_6, ↓wP, wS, Nat.reduceEqDiff, reduceIte, Nat.reduceLeDiff, and_self, cond_true, cond_false, Nat.reduceAdd, Nat.reduceMul, e3, rdT_of gp3]
    refine places_call TT hf3 a3 ok fun r h4 k4 hw4 => ?_
    obtain ⟨rb, rfl, w1, w2, w3⟩ := hw4
    simp only [↓wP, wS, Nat.reduceEqDiff, reduceIte, Nat.reduceLeDiff, and_self, cond_true, cond_false, Nat.reduceAdd, Nat.reduceMul, e3]
    obtain ⟨lt3, nz3, rv3, g3, root3⟩ := a3
    have n3 := k3.next
    have hlen2 : (area S).length ≤ 1000 := by rw [area_length]; exact ok.small
    refine delete_func TT (h0 := h3) (h := h4) k4.old (k4.fzLt hf3) w1 w2 (by rw [k4.fz]; exact hf3.not_mem w1) (pred_here TT (h0 := h3) (by omega) gp3 lt3 g3) hlen2 w3 fun h5 k5 hd5 => ?_
    obtain ⟨rest, g5⟩ := hd5
    simp only [↓wP, wS, Nat.reduceEqDiff, reduceIte, Nat.reduceLeDiff, and_self, cond_true, cond_false, Nat.reduceAdd, Nat.reduceMul]
    have o35 : Old h3 h5 := ⟨Nat.le_trans k4.next k5.next, fun b hb => (k5.get b (Nat.lt_of_lt_of_le hb k4.next) (by omega)).trans (k4.get b hb (fun x => x))⟩
    have a5 : LAt Z h5 bt S := LAt.mono o35 ⟨lt3, nz3, rv3, g3, root3⟩
    have gp5 : h5.t.get pb = some (.cells [pt bt 0] 0 true) := (o35.get pb (by omega)).trans gp3
    have fz5 : h5.fz = h.fz := by rw [k5.fz, k4.fz, fz3]
    have nx5 := o35.next
    change h5.t.get rb = some (.cells (wcells (others S) ++ rest) 5 true) at g5
    have hol : (others S).length ≤ 1000 := Nat.le_trans (List.length_filter_le _ _) hlen2
    have hw1 : w64 (((others S).length : Int) - 1) = ((others S).length - 1 : Nat) := by rw [w64_id (by omega) (by omega)]; omega
    have hp1 : (0 : Int) ≤ (((others S).length - 1 : Nat) : Int) := by omega
    have hp2 : (((others S).length - 1 : Nat) : Int) < ((others S).length : Int) := by omega
    have hrd := rdT_id' (i := (others S).length - 1) g5 (by omega)
    have hkeep : (keepL (fun w => decide (w.id = S.here)) (area S)).length = (others S).length := rfl
    refine Code.draw ?_
    simp only [s24_7, ↓wP, wS, Nat.reduceEqDiff, reduceIte, Nat.reduceLeDiff, and_self, cond_true, cond_false, Nat.reduceAdd, Nat.reduceMul, ↓Draw.cons, dS, decide_true, decide_false, e3, rdT_of gp5, hkeep, hw1, hp1, hp2, and_self, if_true, Int.toNat_natCast, Nat.add_zero, hrd]
    have k05 : Kp (· = bt) h h5 := ⟨by have := hk.next; omega, fun b hb hx => by
      have := hk.next
      rw [o35.get b (by omega), k3.get b (by omega) (fun x => x), hk.get b hb hx], fz5⟩
    refine close_call TT (h := ⟨h5.t, h5.next, h5.fz⟩) (k05.fzLt hf) a5 ok sm (id := lastId S) hix (by show bt ∉ h5.fz; rw [fz5]; exact hn) (fun b hb => hz b (Nat.le_trans k05.next hb)) fun h6 k6 a6 => ?_
    simp only [↓wP, wS, Nat.reduceEqDiff, reduceIte, Nat.reduceLeDiff, and_self, cond_true, cond_false, Nat.reduceAdd, Nat.reduceMul, ↓Draw.cons, dS, decide_true, decide_false]
    refine Code.ops ?_
    have hw7 : w64 ((cnt : Int) + 1) = cnt + 1 := w64_id (by omega) (by omega)
    simp only [s24_8, ↓wP, wS, Nat.reduceEqDiff, reduceIte, Nat.reduceLeDiff, and_self, cond_true, cond_false, Nat.reduceAdd, Nat.reduceMul, e7, hw7]
    have k06 : Kp (· = bt) h ⟨h6.t, h6.next, h5.fz⟩ := ⟨Nat.le_trans k05.next k6.next, fun b hb hx => (k6.get b (Nat.lt_of_lt_of_le hb k05.next) hx).trans (k05.get b hb hx), fz5⟩
    refine ih (cnt + 1) _ (by omega) (by simp only [↓wP, wS, Nat.reduceEqDiff, reduceIte, Nat.reduceLeDiff, and_self, cond_true, cond_false, Nat.reduceAdd, Nat.reduceMul, e3]) (by simp only [↓wP, wS, Nat.reduceEqDiff, reduceIte, Nat.reduceLeDiff, and_self, cond_true, cond_false, Nat.reduceAdd, Nat.reduceMul]; rfl) k06 ?_ (Nat.lt_of_lt_of_le (show pb < h5.next by omega) k6.next) ((k6.get pb (show pb < h5.next by omega) (by omega)).trans gp5) fun s' q7 kk aa => ?_
    · obtain ⟨l1, l2, l3, l4, l5⟩ := a6
      exact ⟨l1, l2, l3, l4, TAt.move (h := h6) (h' := ⟨h6.t, h6.next, h5.fz⟩) (Nat.le_refl _) (fun _ _ _ => rfl) (fun _ _ hz => hz) l5⟩
    · refine hq s' ?_ kk aa
      rw [q7]
      congr 2
      omega

theorem resize_all (TT : Tab F G) {h : Hp} (hf : FzLt h) {Z : Nat → Prop} {bt : Nat} {S S' : LS} (a : LAt Z h bt S) (hn : bt ∉ h.fz) (hz : ∀ b, h.next ≤ b → Z b) {r c : Int} {n : Nat} (hn2 : n ≤ 1000) (hrl : RL n { S with rows := clampR r, cols := clampC c } S') {R : Value → Hp → Prop}
    (hr : ∀ h', Kp (· = bt) h h' → LAt Z h' bt S' → R (i64 n) h') : Call F G 24 [pt bt 0, i64 r, i64 c] h R := by
  refine Call.enter (TT.g _ _ (by decide)) TT.f24 (Nat.le_of_ble_eq_true rfl) ?_
  simp only [c24, envOf]
  refine Code.seq (Code.ops ?_)
  simp only [s24_0, ↓wP, wS, Nat.reduceEqDiff, reduceIte, Nat.reduceLeDiff, and_self, cond_true, cond_false, Nat.reduceAdd, Nat.reduceMul]
  refine NewQ.intro fun pb h1 e1 n1 g1 k1 => ?_
  simp only [↓wP, wS, Nat.reduceEqDiff, reduceIte, Nat.reduceLeDiff, and_self, cond_true, cond_false, Nat.reduceAdd, Nat.reduceMul]
  refine Code.seq (Code.seq (Code.ops ?_))
  simp only [s24_1, ↓wP, wS, Nat.reduceEqDiff, reduceIte, Nat.reduceLeDiff, and_self, cond_true, cond_false, Nat.reduceAdd, Nat.reduceMul, rdT_of g1]
  refine Code.cond (t := false) (by simp only [↓wP, wS, Nat.reduceEqDiff, reduceIte, Nat.reduceLeDiff, and_self, cond_true, cond_false, Nat.reduceAdd, Nat.reduceMul]) (fun hx => by cases hx) (fun _ => Code.skip ?_)
  refine Code.seq (Code.ops ?_)
  simp only [s24_3, ↓wP, wS, Nat.reduceEqDiff, reduceIte, Nat.reduceLeDiff, and_self, cond_true, cond_false, Nat.reduceAdd, Nat.reduceMul, rdT_of g1]
  refine resize_call TT (a.mono k1.old) (by rw [k1.fz]; exact hn) fun v h2 n2 k2 a2 => ?_
  simp only [↓wP, wS, Nat.reduceEqDiff, reduceIte, Nat.reduceLeDiff, and_self, cond_true, cond_false, Nat.reduceAdd, Nat.reduceMul]
  refine Code.seq (Code.ops ?_)
  simp only [s24_4, ↓wP, wS, Nat.reduceEqDiff, reduceIte, Nat.reduceLeDiff, and_self, cond_true, cond_false, Nat.reduceAdd, Nat.reduceMul]
  have k02 : Kp (· = bt) h h2 := (k1.weaken (fun _ _ hx => hx.elim)).trans k2
  have lt := a.lt
  refine Code.seq (Code.block (shrink_loop TT hf hn a.lt hz (pb := pb) (by omega) hrl 0 _ (by omega) (by simp only [↓wP, wS, Nat.reduceEqDiff, reduceIte, Nat.reduceLeDiff, and_self, cond_true, cond_false, Nat.reduceAdd, Nat.reduceMul]) (by simp only [↓wP, wS, Nat.reduceEqDiff, reduceIte, Nat.reduceLeDiff, and_self, cond_true, cond_false, Nat.reduceAdd, Nat.reduceMul]; rfl) k02 a2 (by simp only; omega) (k2.keep (by omega) (by omega) g1) fun s' q7 kk aa => ?_))
  simp only [if_true]
  obtain ⟨e, h3⟩ := s'
  simp only at q7 kk aa
  rw [Nat.zero_add] at q7
  refine Code.seq (Code.ops ?_)
  simp only [s24_10, ↓wP, wS, Nat.reduceEqDiff, reduceIte, Nat.reduceLeDiff, and_self, cond_true, cond_false, Nat.reduceAdd, Nat.reduceMul, q7]
  refine Code.ret ?_
  simp only [resVs, resV, pack, ↓wP, wS, Nat.reduceEqDiff, reduceIte, Nat.reduceLeDiff, and_self, cond_true, cond_false, Nat.reduceAdd, Nat.reduceMul]
  exact ⟨trivial, _, rfl, hr _ kk aa⟩
end
end Go.Eng
