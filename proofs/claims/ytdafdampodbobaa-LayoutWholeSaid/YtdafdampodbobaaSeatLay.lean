/- Trees of windows: what they are in memory, and what lay comes to. -/
import Derived.Test.YtdafdampodbobaaSeatHeap
import Derived.Test.YtdafdampodbobaaSeatShare
namespace Go.Eng
set_option linter.unusedSimpArgs false
set_option linter.unusedVariables false

inductive Tr where
  | win (id : Int)
  | grp (side : Bool) (kids : List Tr)

structure Wn where
  id : Int
  top : Int
  left : Int
  rows : Int
  cols : Int

def Wn.cells (w : Wn) : List Value := [i64 w.id, i64 w.top, i64 w.left, i64 w.rows, i64 w.cols]
def wcells (l : List Wn) : List Value := l.flatMap Wn.cells

theorem wcells_nil : wcells [] = [] := rfl
theorem wcells_cons (w : Wn) (l : List Wn) : wcells (w :: l) = w.cells ++ wcells l := by simp [wcells]
theorem wcells_append (a b : List Wn) : wcells (a ++ b) = wcells a ++ wcells b := by simp [wcells]
theorem wcells_length (l : List Wn) : (wcells l).length = l.length * 5 := by
  induction l with
  | nil => rfl
  | cons w l ih => rw [wcells_cons, List.length_append, ih, List.length_cons]; simp [Wn.cells]; omega
theorem wcells_one (l : List Wn) : (wcells l).all oneCell = true := by
  induction l with
  | nil => rfl
  | cons w l ih => rw [wcells_cons, List.all_append, ih]; rfl

/-- The place of the one with number i of k in a group. -/
def kidTop (side : Bool) (k i : Nat) (top rows : Int) : Int := if side then top else w64 (top + shareW rows k i)
def kidLeft (side : Bool) (k i : Nat) (left cols : Int) : Int := if side then w64 (left + w64 (i + shareW (w64 (cols - (k - 1))) k i)) else left
def kidRows (side : Bool) (k i : Nat) (rows : Int) : Int := if side then rows else w64 (shareW rows k (i + 1) - shareW rows k i)
def kidCols (side : Bool) (k i : Nat) (cols : Int) : Int := if side then w64 (shareW (w64 (cols - (k - 1))) k (i + 1) - shareW (w64 (cols - (k - 1))) k i) else cols

mutual
/-- All windows' places, in order. -/
def plc : Tr → Int → Int → Int → Int → List Wn
  | .win id, top, left, rows, cols => [⟨id, top, left, rows, cols⟩]
  | .grp side ks, top, left, rows, cols => plcs side ks.length ks 0 top left rows cols
def plcs (side : Bool) (k : Nat) : List Tr → Nat → Int → Int → Int → Int → List Wn
  | [], _, _, _, _, _ => []
  | t :: r, i, top, left, rows, cols => plc t (kidTop side k i top rows) (kidLeft side k i left cols) (kidRows side k i rows) (kidCols side k i cols) ++ plcs side k r (i + 1) top left rows cols
end

mutual
/-- The windows' numbers, in order. -/
def ids : Tr → List Int
  | .win id => [id]
  | .grp _ ks => idss ks
def idss : List Tr → List Int
  | [] => []
  | t :: r => ids t ++ idss r
end

mutual
/-- No group is empty. -/
def Good : Tr → Prop
  | .win _ => True
  | .grp _ ks => ks ≠ [] ∧ Goods ks
def Goods : List Tr → Prop
  | [] => True
  | t :: r => Good t ∧ Goods r
end

mutual
theorem plc_length : ∀ (t : Tr) (top left rows cols : Int), (plc t top left rows cols).length = (ids t).length
  | .win _, _, _, _, _ => by simp [plc, ids]
  | .grp side ks, top, left, rows, cols => by rw [plc, ids]; exact plcs_length side ks.length ks 0 top left rows cols
theorem plcs_length (side : Bool) (k : Nat) : ∀ (l : List Tr) (i : Nat) (top left rows cols : Int), (plcs side k l i top left rows cols).length = (idss l).length
  | [], _, _, _, _, _ => by simp [plcs, idss]
  | t :: r, i, top, left, rows, cols => by rw [plcs, idss, List.length_append, List.length_append, plc_length t, plcs_length side k r]
end

mutual
theorem ids_pos : ∀ (t : Tr), Good t → 0 < (ids t).length
  | .win _, _ => by simp [ids]
  | .grp _ [], h => by rw [Good] at h; exact absurd rfl h.1
  | .grp _ (t :: r), h => by
    rw [Good, Goods] at h
    rw [ids, idss, List.length_append]
    have := ids_pos t h.2.1
    omega
end
theorem idss_len : ∀ (l : List Tr), Goods l → l.length ≤ (idss l).length
  | [], _ => by simp [idss]
  | t :: r, h => by
    rw [Goods] at h
    rw [idss, List.length_append, List.length_cons]
    have := ids_pos t h.1
    have := idss_len r h.2
    omega
theorem goods_get : ∀ (l : List Tr), Goods l → ∀ (i : Nat) (t : Tr), l[i]? = some t → Good t ∧ (ids t).length ≤ (idss l).length
  | [], _, i, t, h => by simp at h
  | u :: r, hg, i, t, h => by
    rw [Goods] at hg
    rw [idss, List.length_append]
    cases i with
    | zero => simp at h; subst h; exact ⟨hg.1, by omega⟩
    | succ i =>
      have := goods_get r hg.2 i t (by simpa using h)
      exact ⟨this.1, by omega⟩

/-- A tree in memory, in blocks of Z. -/
inductive TAt (Z : Nat → Prop) (h : Hp) : Value → Tr → Prop where
  | win (b : Nat) (id : Int) (sz : Nat) (own : Bool) (hb : b < h.next) (hz : Z b) (hg : h.t.get b = some (.cells [i64 id] sz own)) : TAt Z h (.iface 61 (pt b 0)) (.win id)
  | grp (b kb : Nat) (side : Bool) (sz ksz : Nat) (own kown : Bool) (vs : List Value) (ts : List Tr) (hb : b < h.next) (hz : Z b) (hg : h.t.get b = some (.cells [.bool side, sl kb 0 vs.length 0] sz own)) (hk : kb < h.next) (hkz : Z kb)
      (hkg : h.t.get kb = some (.cells vs ksz kown)) (hl : vs.length = ts.length) (hkids : ∀ (i : Nat) (v : Value) (t : Tr), vs[i]? = some v → ts[i]? = some t → TAt Z h v t) : TAt Z h (.iface 60 (pt b 0)) (.grp side ts)

/-- What is of old is as it was. -/
structure Old (h h' : Hp) : Prop where
  next : h.next ≤ h'.next
  get : ∀ b, b < h.next → h'.t.get b = h.t.get b

theorem Old.refl (h : Hp) : Old h h := ⟨Nat.le_refl _, fun _ _ => rfl⟩
theorem Old.trans {a b c : Hp} (x : Old a b) (y : Old b c) : Old a c := ⟨Nat.le_trans x.next y.next, fun k hk => (y.get k (Nat.lt_of_lt_of_le hk x.next)).trans (x.get k hk)⟩
theorem K0.old {h h' : Hp} (k : K0 h h') : Old h h' := ⟨k.next, fun b hb => k.get b hb (fun x => x)⟩

/-- A tree is kept where its blocks are. -/
theorem TAt.move {Z Z' : Nat → Prop} {h h' : Hp} (hn : h.next ≤ h'.next) (hg : ∀ b, b < h.next → Z b → h'.t.get b = h.t.get b) (hz : ∀ b, b < h.next → Z b → Z' b) {v : Value} {t : Tr} (ht : TAt Z h v t) : TAt Z' h' v t := by
  induction ht with
  | win b id sz own hb hzb hgb => exact .win b id sz own (Nat.lt_of_lt_of_le hb hn) (hz b hb hzb) ((hg b hb hzb).trans hgb)
  | grp b kb side sz ksz own kown vs ts hb hzb hgb hk hkz hkg hl _ ih =>
    exact .grp b kb side sz ksz own kown vs ts (Nat.lt_of_lt_of_le hb hn) (hz b hb hzb) ((hg b hb hzb).trans hgb) (Nat.lt_of_lt_of_le hk hn) (hz kb hk hkz) ((hg kb hk hkz).trans hkg) hl ih

theorem TAt.mono {Z : Nat → Prop} {h h' : Hp} (o : Old h h') {v : Value} {t : Tr} (ht : TAt Z h v t) : TAt Z h' v t := ht.move o.next (fun b hb _ => o.get b hb) (fun _ _ hz => hz)
theorem TAt.imp {Z Z' : Nat → Prop} {h : Hp} (hz : ∀ b, b < h.next → Z b → Z' b) {v : Value} {t : Tr} (ht : TAt Z h v t) : TAt Z' h v t := ht.move (Nat.le_refl _) (fun _ _ _ => rfl) hz
theorem TAt.keep {X Z : Nat → Prop} {h h' : Hp} (k : Kp X h h') (hX : ∀ b, X b → ¬ Z b) {v : Value} {t : Tr} (ht : TAt Z h v t) : TAt Z h' v t := ht.move k.next (fun b hb hz => k.get b hb (fun hx => hX b hx hz)) (fun _ _ hz => hz)
theorem TAt.one {Z : Nat → Prop} {h : Hp} {v : Value} {t : Tr} (ht : TAt Z h v t) : oneCell v = true := by cases ht <;> rfl

/-- A list of windows in memory, made by the call. -/
def WAt (h : Hp) (n0 : Nat) (v : Value) (l : List Wn) : Prop :=
  ∃ b, v = sl b 0 l.length 0 ∧ n0 ≤ b ∧ b < h.next ∧ h.t.get b = some (.cells (wcells l) 5 true)

section
variable {F : FuncId → Option SFunc} {G : FuncId → List Value → Option Value}

theorem lay_win (TT : Tab F G) {h : Hp} (hf : FzLt h) {b sz : Nat} {own : Bool} {id z top left rows cols : Int} (hb : b < h.next) (hg : h.t.get b = some (.cells [i64 id] sz own)) {R : Value → Hp → Prop}
    (hr : ∀ r h', K0 h h' → WAt h' h.next r [⟨id, top, left, rows, cols⟩] → R r h') : Call F G 66 [pt b 0, .agg #[i64 z, i64 top, i64 left, i64 rows, i64 cols]] h R := by
  refine Call.enter (TT.g _ _ (by decide)) TT.f66 (Nat.le_of_ble_eq_true rfl) ?_
  simp only [c66, envOf]
  refine Code.seq (Code.ops ?_)
  simp only [s66_0, ↓wP, wS, Nat.reduceEqDiff, reduceIte, Nat.reduceLeDiff, and_self, cond_true, cond_false, Nat.reduceAdd, Nat.reduceMul]
  refine NewQ.intro fun p1 h1 e1 n1 g1 k1 => ?_
  simp only [↓wP, wS, Nat.reduceEqDiff, reduceIte, Nat.reduceLeDiff, and_self, cond_true, cond_false, Nat.reduceAdd, Nat.reduceMul]
  refine Code.seq (Code.ops ?_)
  have hg1 := k1.keep hb (fun x => x) hg
  simp only [s66_1, ↓wP, wS, Nat.reduceEqDiff, reduceIte, Nat.reduceLeDiff, and_self, cond_true, cond_false, Nat.reduceAdd, Nat.reduceMul, rdT_of hg1, List.getElem?_cons_zero]
  refine StoreQ.one rfl g1 (by simp) (k1.fz ▸ hf.not_mem (by omega)) fun h2 n2 g2 k2 => ?_
  simp only [↓wP, wS, Nat.reduceEqDiff, reduceIte, Nat.reduceLeDiff, and_self, cond_true, cond_false, Nat.reduceAdd, Nat.reduceMul] at g2 ⊢
  refine Code.seq (Code.ops ?_)
  have r2 := rdN_of (n := 5) (o := 0) g2 (Nat.le_refl _)
  simp only [s66_2, ↓wP, wS, Nat.reduceEqDiff, reduceIte, Nat.reduceLeDiff, and_self, cond_true, cond_false, Nat.reduceAdd, Nat.reduceMul, r2]
  refine NewQ.intro fun p3 h3 e3 n3 g3 k3 => ?_
  simp only [↓wP, wS, Nat.reduceEqDiff, reduceIte, Nat.reduceLeDiff, and_self, cond_true, cond_false, Nat.reduceAdd, Nat.reduceMul]
  refine Code.ret ?_
  simp only [resVs, resV, pack, ↓wP, wS, Nat.reduceEqDiff, reduceIte, Nat.reduceLeDiff, and_self, cond_true, cond_false, Nat.reduceAdd, Nat.reduceMul]
  refine ⟨trivial, _, rfl, hr _ _ ?_ ⟨p3, rfl, by omega, by omega, g3⟩⟩
  exact (k1.andThen k2 (fun x hx hl => by omega)).trans k3

structure LI (h : Hp) (bg kb k p3 : Nat) (z top left rows cols : Int) (i : Nat) (done : List Wn) (s : St) : Prop where
  e0 : s.e.get 0 = some (pt bg 0)
  e3 : s.e.get 3 = some (pt p3 0)
  e6 : s.e.get 6 = some (i64 k)
  e19 : s.e.get 19 = some (sl kb 0 k 0)
  e20 : s.e.get 20 = some (i64 k)
  e21 : s.e.get 21 = some (i64 i)
  e5 : ∃ acc, s.e.get 5 = some acc ∧ Acc s.h h.next 5 done.length (wcells done) acc ∧ blkOf acc ≠ some p3
  heap : K0 h s.h
  lo : h.next ≤ p3
  hi : p3 < s.h.next
  g3 : s.h.t.get p3 = some (.cells [i64 z, i64 top, i64 left, i64 rows, i64 cols] 0 true)

theorem lay_exit {h : Hp} {bg kb k p3 : Nat} {z top left rows cols : Int} {done : List Wn} {s : St} (I : LI h bg kb k p3 z top left rows cols k done s) {Q : Flow → St → Prop} (hq : ∀ s', LI h bg kb k p3 z top left rows cols k done s' → Q (.exit 0) s') :
    Code F G b64_15 s Q := by
  obtain ⟨e, h2⟩ := s
  obtain ⟨e0, e3, e6, e19, e20, e21, e5, hk, lo, hi, g3⟩ := I
  simp only at e0 e3 e6 e19 e20 e21 e5 hk hi g3
  refine Code.seq (Code.ops ?_)
  simp only [s64_4, ↓wP, wS, Nat.reduceEqDiff, reduceIte, Nat.reduceLeDiff, and_self, cond_true, cond_false, Nat.reduceAdd, Nat.reduceMul, e20, e21, Int.lt_irrefl, decide_false]
  refine Code.seq (Code.cond (t := false) (by simp only [↓wP, wS, Nat.reduceEqDiff, reduceIte, Nat.reduceLeDiff, and_self, cond_true, cond_false, Nat.reduceAdd, Nat.reduceMul]) (fun h => by cases h) (fun _ => Code.exit ?_))
  refine hq _ ⟨?_, ?_, ?_, ?_, ?_, ?_, ?_, hk, lo, hi, g3⟩ <;> simp only [↓wP, wS, Nat.reduceEqDiff, reduceIte, Nat.reduceLeDiff, and_self, cond_true, cond_false, Nat.reduceAdd, Nat.reduceMul, e0, e3, e6, e19, e20, e21]
  exact e5

/-- What an invoked lay comes to. -/
def Lays (F : FuncId → Option SFunc) (G : FuncId → List Value → Option Value) (h0 : Hp) (v : Value) (t : Tr) : Prop :=
  ∀ (h : Hp) (z top left rows cols : Int) (R : Value → Hp → Prop), Old h0 h → FzLt h → (∀ r h', K0 h h' → WAt h' h.next r (plc t top left rows cols) → R r h') →
    CallQ F G (invT [(60, 64), (61, 66)] (some [.agg #[i64 z, i64 top, i64 left, i64 rows, i64 cols]]) (some v)) h R

/-- Behind the place of a kid. -/
structure LMid (e0 : Env) (h4 : Hp) (p9 : Nat) (z top left rows cols : Int) (s : St) : Prop where
  e : ∀ k, k ∈ [0, 3, 5, 6, 8, 9, 19, 20, 21] → s.e.get k = e0.get k
  g9 : s.h.t.get p9 = some (.cells [i64 z, i64 top, i64 left, i64 rows, i64 cols] 0 true)
  heap : Kp (· = p9) h4 s.h
  next : s.h.next = h4.next

theorem lay_place (TT : Tab F G) {h4 : Hp} {e : Env} {k i p3 p9 : Nat} {side : Bool} {z top left rows cols : Int} (hk : 0 < k) (hk2 : k ≤ 1000) (hi : i < k)
    (g4 : h4.t.get p9 = some (.cells [i64 z, i64 top, i64 left, i64 rows, i64 cols] 0 true)) (g3 : h4.t.get p3 = some (.cells [i64 z, i64 top, i64 left, i64 rows, i64 cols] 0 true)) (hf : p9 ∉ h4.fz) (hne : p3 ≠ p9) (hp3 : p3 < h4.next)
    (e3 : e.get 3 = some (pt p3 0)) (e6 : e.get 6 = some (i64 k)) (e7 : e.get 7 = some (i64 i)) (e9 : e.get 9 = some (pt p9 0)) (e30 : e.get 30 = some (.bool side)) :
    Code F G (.cond (.t 30) (.seq (.ops s64_8) (.seq (.draw s64_9) (.ops s64_10))) (.seq (.draw s64_11) (.draw s64_12))) ⟨e, h4⟩ fun fl s => fl = .next ∧
      LMid e h4 p9 z (kidTop side k i top rows) (kidLeft side k i left cols) (kidRows side k i rows) (kidCols side k i cols) s := by
  have hk0 : (k : Int) ≠ 0 := by omega
  have hw1 : w64 ((k : Int) - 1) = k - 1 := w64_id (by omega) (by omega)
  have hw2 : w64 ((i : Int) + 1) = i + 1 := w64_id (by omega) (by omega)
  refine Code.cond (t := side) e30 (fun hs => ?_) (fun hs => ?_)
  · subst hs
    refine Code.seq (Code.ops ?_)
    simp only [s64_8, ↓wP, wS, Nat.reduceEqDiff, reduceIte, Nat.reduceLeDiff, and_self, cond_true, cond_false, Nat.reduceAdd, Nat.reduceMul, e3, e6, rdT_of g3, hw1]
    refine Code.seq (Code.draw ?_)
    simp only [s64_9, ↓wP, wS, Nat.reduceEqDiff, reduceIte, Nat.reduceLeDiff, and_self, cond_true, cond_false, Nat.reduceAdd, Nat.reduceMul, ↓Draw.cons, dS, decide_true, decide_false, e6, e7, e9, rdT_of g4, fzStep_load]
    refine share_call TT _ _ _ hk0 _ _ ?_
    simp only [↓wP, wS, Nat.reduceEqDiff, reduceIte, Nat.reduceLeDiff, and_self, cond_true, cond_false, Nat.reduceAdd, Nat.reduceMul, ↓Draw.cons, dS, decide_true, decide_false, e9]
    refine StoreQ.one rfl g4 (by simp) (by simpa using hf) fun h5 n5 g5 k5 => ?_
    simp only [↓wP, wS, Nat.reduceEqDiff, reduceIte, Nat.reduceLeDiff, and_self, cond_true, cond_false, Nat.reduceAdd, Nat.reduceMul, ↓Draw.cons, dS, decide_true, decide_false] at g5 ⊢
    refine Code.ops ?_
    simp only [s64_10, ↓wP, wS, Nat.reduceEqDiff, reduceIte, Nat.reduceLeDiff, and_self, cond_true, cond_false, Nat.reduceAdd, Nat.reduceMul, e6, e7, e9, hw2]
    refine share_call TT _ _ _ hk0 _ _ ?_
    simp only [↓wP, wS, Nat.reduceEqDiff, reduceIte, Nat.reduceLeDiff, and_self, cond_true, cond_false, Nat.reduceAdd, Nat.reduceMul, e6, e7, e9, hw2]
    refine share_call TT _ _ _ hk0 _ _ ?_
    simp only [↓wP, wS, Nat.reduceEqDiff, reduceIte, Nat.reduceLeDiff, and_self, cond_true, cond_false, Nat.reduceAdd, Nat.reduceMul, e6, e7, e9, hw2]
    refine StoreQ.one rfl g5 (by simp) (by simpa using hf) fun h6 n6 g6 k6 => ?_
    simp only [↓wP, wS, Nat.reduceEqDiff, reduceIte, Nat.reduceLeDiff, and_self, cond_true, cond_false, Nat.reduceAdd, Nat.reduceMul] at g6 ⊢
    refine ⟨trivial, ⟨fun q hq => ?_, g6, ?_, n6.trans n5⟩⟩
    · simp only [List.mem_cons, List.not_mem_nil, or_false] at hq
      rcases hq with rfl | rfl | rfl | rfl | rfl | rfl | rfl | rfl | rfl <;> simp only [↓wP, wS, Nat.reduceEqDiff, reduceIte, Nat.reduceLeDiff, and_self, cond_true, cond_false, Nat.reduceAdd, Nat.reduceMul]
    · exact ⟨by rw [n6]; exact Nat.le_of_eq n5.symm, fun x hx hn => (k6.get x (by rw [n5]; exact hx) hn).trans (k5.get x hx hn), k6.fz⟩
  · subst hs
    refine Code.seq (Code.draw ?_)
    simp only [s64_11, ↓wP, wS, Nat.reduceEqDiff, reduceIte, Nat.reduceLeDiff, and_self, cond_true, cond_false, Nat.reduceAdd, Nat.reduceMul, ↓Draw.cons, dS, decide_true, decide_false, e3, e6, e7, e9, rdT_of g4, rdT_of g3, fzStep_load]
    refine share_call TT _ _ _ hk0 _ _ ?_
    simp only [↓wP, wS, Nat.reduceEqDiff, reduceIte, Nat.reduceLeDiff, and_self, cond_true, cond_false, Nat.reduceAdd, Nat.reduceMul, ↓Draw.cons, dS, decide_true, decide_false, e9]
    refine StoreQ.one rfl g4 (by simp) (by simpa using hf) fun h5 n5 g5 k5 => ?_
    simp only [↓wP, wS, Nat.reduceEqDiff, reduceIte, Nat.reduceLeDiff, and_self, cond_true, cond_false, Nat.reduceAdd, Nat.reduceMul, ↓Draw.cons, dS, decide_true, decide_false] at g5 ⊢
    have g35 : h5.t.get p3 = some (.cells [i64 z, i64 top, i64 left, i64 rows, i64 cols] 0 true) := by
      rw [k5.get p3 ?_ hne]
      · exact g3
      · exact hp3
    refine Code.draw ?_
    simp only [s64_12, ↓wP, wS, Nat.reduceEqDiff, reduceIte, Nat.reduceLeDiff, and_self, cond_true, cond_false, Nat.reduceAdd, Nat.reduceMul, ↓Draw.cons, dS, decide_true, decide_false, e3, e6, e7, e9, rdT_of g35, fzStep_load, hw2]
    refine share_call TT _ _ _ hk0 _ _ ?_
    simp only [↓wP, wS, Nat.reduceEqDiff, reduceIte, Nat.reduceLeDiff, and_self, cond_true, cond_false, Nat.reduceAdd, Nat.reduceMul, ↓Draw.cons, dS, decide_true, decide_false, e3, e6, e7, e9, hw2]
    refine share_call TT _ _ _ hk0 _ _ ?_
    simp only [↓wP, wS, Nat.reduceEqDiff, reduceIte, Nat.reduceLeDiff, and_self, cond_true, cond_false, Nat.reduceAdd, Nat.reduceMul, ↓Draw.cons, dS, decide_true, decide_false, e3, e6, e7, e9, hw2]
    refine StoreQ.one rfl g5 (by simp) (by simpa using hf) fun h6 n6 g6 k6 => ?_
    simp only [↓wP, wS, Nat.reduceEqDiff, reduceIte, Nat.reduceLeDiff, and_self, cond_true, cond_false, Nat.reduceAdd, Nat.reduceMul, ↓Draw.cons, dS, decide_true, decide_false] at g6 ⊢
    refine ⟨trivial, ⟨fun q hq => ?_, g6, ?_, n6.trans n5⟩⟩
    · simp only [List.mem_cons, List.not_mem_nil, or_false] at hq
      rcases hq with rfl | rfl | rfl | rfl | rfl | rfl | rfl | rfl | rfl <;> simp only [↓wP, wS, Nat.reduceEqDiff, reduceIte, Nat.reduceLeDiff, and_self, cond_true, cond_false, Nat.reduceAdd, Nat.reduceMul]
    · exact ⟨by rw [n6]; exact Nat.le_of_eq n5.symm, fun x hx hn => (k6.get x (by rw [n5]; exact hx) hn).trans (k5.get x hx hn), rfl⟩

theorem lay_round (TT : Tab F G) {h0 h : Hp} (ho : Old h0 h) (hf : FzLt h) {bg kb p3 sz ksz : Nat} {own kown side : Bool} {vs : List Value} {z top left rows cols : Int} (hbg : bg < h.next) (hkb : kb < h.next)
    (hg : h.t.get bg = some (.cells [.bool side, sl kb 0 vs.length 0] sz own)) (hkg : h.t.get kb = some (.cells vs ksz kown)) (hlen : vs.length ≤ 1000)
    {i : Nat} {v : Value} {t : Tr} (hv : vs[i]? = some v) (hlay : Lays F G h0 v t) {done : List Wn} (hd : (done.length + (ids t).length) * 40 ≤ 140737488355328) {s : St} (I : LI h bg kb vs.length p3 z top left rows cols i done s) {Q : Flow → St → Prop}
    (hq : ∀ s', LI h bg kb vs.length p3 z top left rows cols (i + 1) (done ++ plc t (kidTop side vs.length i top rows) (kidLeft side vs.length i left cols) (kidRows side vs.length i rows) (kidCols side vs.length i cols)) s' → Q .next s') :
    Code F G b64_15 s Q := by
  obtain ⟨e, h2⟩ := s
  obtain ⟨e0, e3, e6, e19, e20, e21, ⟨acc, e5, hacc, hne⟩, hk, lo, hi, g3⟩ := I
  simp only at e0 e3 e6 e19 e20 e21 e5 hk hi g3 hacc
  have hil : i < vs.length := (List.getElem?_eq_some_iff.1 hv).1
  have hlt : (i : Int) < (vs.length : Int) := by omega
  have h0i : (0 : Int) ≤ (i : Int) := by omega
  refine Code.seq (Code.ops ?_)
  simp only [s64_4, ↓wP, wS, Nat.reduceEqDiff, reduceIte, Nat.reduceLeDiff, and_self, cond_true, cond_false, Nat.reduceAdd, Nat.reduceMul, e20, e21, hlt, decide_true]
  refine Code.seq (Code.cond (t := true) (by simp only [↓wP, wS, Nat.reduceEqDiff, reduceIte, Nat.reduceLeDiff, and_self, cond_true, cond_false, Nat.reduceAdd, Nat.reduceMul]) (fun _ => Code.skip ?_) (fun h => by cases h))
  refine Code.seq (Code.block (Code.seq (Code.ops ?_)))
  have hkg2 := hk.keep hkb (fun x => x) hkg
  have hg2 := hk.keep hbg (fun x => x) hg
  simp only [s64_5, ↓wP, wS, Nat.reduceEqDiff, reduceIte, Nat.reduceLeDiff, and_self, cond_true, cond_false, Nat.reduceAdd, Nat.reduceMul, e19, e21, hlt, h0i, and_self, if_true, rdT_of hkg2, Int.toNat_natCast, Nat.mul_one, hv]
  refine Code.seq (Code.ops ?_)
  have r3 := rdN_of (n := 5) (o := 0) g3 (Nat.le_refl _)
  simp only [s64_6, ↓wP, wS, Nat.reduceEqDiff, reduceIte, Nat.reduceLeDiff, and_self, cond_true, cond_false, Nat.reduceAdd, Nat.reduceMul, e3, r3]
  refine NewQ.intro fun p9 h3 e9 n3 g9 k3 => ?_
  simp only [↓wP, wS, Nat.reduceEqDiff, reduceIte, Nat.reduceLeDiff, and_self, cond_true, cond_false, Nat.reduceAdd, Nat.reduceMul]
  refine StoreQ.agg (by simp only [↓wP, wS, Nat.reduceEqDiff, reduceIte, Nat.reduceLeDiff, and_self, cond_true, cond_false, Nat.reduceAdd, Nat.reduceMul]) (by simp only [↓wP, wS, Nat.reduceEqDiff, reduceIte, Nat.reduceLeDiff, and_self, cond_true, cond_false, Nat.reduceAdd, Nat.reduceMul]) g9 (by simp) (k3.fz ▸ (hk.fzLt hf).not_mem (by omega)) fun h4 n4 g4 k4 => ?_
  simp only [↓wP, wS, Nat.reduceEqDiff, reduceIte, Nat.reduceLeDiff, and_self, cond_true, cond_false, Nat.reduceAdd, Nat.reduceMul, List.nil_append, List.append_nil] at g4 ⊢
  refine Code.seq (Code.seq (Code.ops ?_))
  have hg4 := k4.keep (by omega) (by omega) (k3.keep (by omega) (fun x => x) hg2)
  have g34 := k4.keep (by omega) (by omega) (k3.keep hi (fun x => x) g3)
  have hf4 : FzLt h4 := k4.fzLt (k3.fzLt (hk.fzLt hf))
  have hp9 : p9 ∉ h4.fz := by rw [k4.fz, k3.fz]; exact (hk.fzLt hf).not_mem (by omega)
  simp only [s64_7, ↓wP, wS, Nat.reduceEqDiff, reduceIte, Nat.reduceLeDiff, and_self, cond_true, cond_false, Nat.reduceAdd, Nat.reduceMul, e0, rdT_of hg4]
  refine (lay_place TT (p3 := p3) (side := side) (by omega) hlen hil g4 g34 hp9 (by omega) (by omega) (by simp only [↓wP, wS, Nat.reduceEqDiff, reduceIte, Nat.reduceLeDiff, and_self, cond_true, cond_false, Nat.reduceAdd, Nat.reduceMul, e3]) (by simp only [↓wP, wS, Nat.reduceEqDiff, reduceIte, Nat.reduceLeDiff, and_self, cond_true, cond_false, Nat.reduceAdd, Nat.reduceMul, e6]) (by simp only [↓wP, wS, Nat.reduceEqDiff, reduceIte, Nat.reduceLeDiff, and_self, cond_true, cond_false, Nat.reduceAdd, Nat.reduceMul]) (by simp only [↓wP, wS, Nat.reduceEqDiff, reduceIte, Nat.reduceLeDiff, and_self, cond_true, cond_false, Nat.reduceAdd, Nat.reduceMul]) (by simp only [↓wP, wS, Nat.reduceEqDiff, reduceIte, Nat.reduceLeDiff, and_self, cond_true, cond_false, Nat.reduceAdd, Nat.reduceMul])).mono fun fl s5 hM => ?_
  obtain ⟨rfl, M⟩ := hM
  obtain ⟨e5', h5⟩ := s5
  obtain ⟨Me, M9, Mk, Mn⟩ := M
  have q0 := Me 0 (by simp)
  have q3 := Me 3 (by simp)
  have q5 := Me 5 (by simp)
  have q6 := Me 6 (by simp)
  have q8 := Me 8 (by simp)
  have q9 := Me 9 (by simp)
  have q19 := Me 19 (by simp)
  have q20 := Me 20 (by simp)
  have q21 := Me 21 (by simp)
  simp only [↓wP, wS, Nat.reduceEqDiff, reduceIte, Nat.reduceLeDiff, and_self, cond_true, cond_false, Nat.reduceAdd, Nat.reduceMul, e0, e3, e5, e6, e19, e20, e21] at q0 q3 q5 q6 q8 q9 q19 q20 q21
  simp only at M9 Mk Mn
  have r9 := rdN_of (n := 5) (o := 0) M9 (Nat.le_refl _)
  have k05 : K0 h h5 := (hk.trans k3).andThen (k4.trans Mk) (fun x hx hl => by omega)
  have acc5 : Acc h5 h.next 5 done.length (wcells done) acc := by
    refine hacc.keep (by omega) fun b hb => ?_
    have := hacc.blk b hb
    rw [Mk.get b (by omega) (by omega), k4.get b (by omega) (by omega), k3.get b (by omega) (fun x => x)]
  refine Code.ops ?_
  simp only [s64_13, ↓wP, wS, Nat.reduceEqDiff, reduceIte, Nat.reduceLeDiff, and_self, cond_true, cond_false, Nat.reduceAdd, Nat.reduceMul, q5, q8, q9, r9]
  refine hlay h5 _ _ _ _ _ _ (ho.trans k05.old) (k05.fzLt hf) fun r h6 k6 hw => ?_
  obtain ⟨rb, rfl, w1, w2, w3⟩ := hw
  simp only [↓wP, wS, Nat.reduceEqDiff, reduceIte, Nat.reduceLeDiff, and_self, cond_true, cond_false, Nat.reduceAdd, Nat.reduceMul, q5, q8, q9]
  have acc6 : Acc h6 h.next 5 done.length (wcells done) acc := acc5.keep k6.next fun b hb => k6.get b (acc5.blk b hb).2 (fun x => x)
  have hlw : (plc t (kidTop side vs.length i top rows) (kidLeft side vs.length i left cols) (kidRows side vs.length i rows) (kidCols side vs.length i cols)).length = (ids t).length := plc_length _ _ _ _ _
  refine AppendQ.acc acc6 (by have := k05.next; have := k6.next; omega) (by omega) (by omega) (by rw [hlw]; exact hd) ⟨_, _, rfl⟩ (cells_whole w3 (wcells_length _)) (wcells_length _) (wcells_one _)
    (fun b hb => by rw [k6.fz]; exact fun hm => by have := hf b (k05.fz ▸ hm); have := (acc6.blk b hb).1; omega) fun v' h7 a7 k7 b7 => ?_
  simp only [↓wP, wS, Nat.reduceEqDiff, reduceIte, Nat.reduceLeDiff, and_self, cond_true, cond_false, Nat.reduceAdd, Nat.reduceMul]
  refine Code.ops ?_
  simp only [s64_14, ↓wP, wS, Nat.reduceEqDiff, reduceIte, Nat.reduceLeDiff, and_self, cond_true, cond_false, Nat.reduceAdd, Nat.reduceMul, q21]
  have hw2 : w64 ((i : Int) + 1) = i + 1 := w64_id (by omega) (by omega)
  have k57 : K0 h h7 := (k05.trans k6).andThen k7 (fun x hx hl => by have := (acc6.blk x hx).1; omega)
  refine hq _ ⟨by simp only [↓wP, wS, Nat.reduceEqDiff, reduceIte, Nat.reduceLeDiff, and_self, cond_true, cond_false, Nat.reduceAdd, Nat.reduceMul, q0], by simp only [↓wP, wS, Nat.reduceEqDiff, reduceIte, Nat.reduceLeDiff, and_self, cond_true, cond_false, Nat.reduceAdd, Nat.reduceMul, q3], by simp only [↓wP, wS, Nat.reduceEqDiff, reduceIte, Nat.reduceLeDiff, and_self, cond_true, cond_false, Nat.reduceAdd, Nat.reduceMul, q6], by simp only [↓wP, wS, Nat.reduceEqDiff, reduceIte, Nat.reduceLeDiff, and_self, cond_true, cond_false, Nat.reduceAdd, Nat.reduceMul, q19], by simp only [↓wP, wS, Nat.reduceEqDiff, reduceIte, Nat.reduceLeDiff, and_self, cond_true, cond_false, Nat.reduceAdd, Nat.reduceMul, q20], ?_, ⟨v', by simp only [↓wP, wS, Nat.reduceEqDiff, reduceIte, Nat.reduceLeDiff, and_self, cond_true, cond_false, Nat.reduceAdd, Nat.reduceMul], ?_, ?_⟩, k57, lo, ?_, ?_⟩
  · simp only [↓wP, wS, Nat.reduceEqDiff, reduceIte, Nat.reduceLeDiff, and_self, cond_true, cond_false, Nat.reduceAdd, Nat.reduceMul, hw2]
    rfl
  · simp only [wcells_append, List.length_append]
    exact a7
  · intro hb
    rcases b7 p3 hb with hx | hx
    · exact hne hx
    · have := k6.next
      omega
  · have := k7.next
    have := k6.next
    simp only
    omega
  · have g35 := Mk.keep (by omega) (by omega) g34
    have g36 := k6.keep (by omega) (fun x => x) g35
    exact k7.keep (by have := k6.next; omega) hne g36

theorem lay_kids (TT : Tab F G) {h0 h : Hp} (ho : Old h0 h) (hf : FzLt h) {bg kb p3 sz ksz : Nat} {own kown side : Bool} {vs : List Value} {ts : List Tr} {z top left rows cols : Int} (hbg : bg < h.next) (hkb : kb < h.next)
    (hg : h.t.get bg = some (.cells [.bool side, sl kb 0 vs.length 0] sz own)) (hkg : h.t.get kb = some (.cells vs ksz kown)) (hlen : vs.length ≤ 1000) (hl : vs.length = ts.length)
    (hlay : ∀ (i : Nat) (v : Value) (t : Tr), vs[i]? = some v → ts[i]? = some t → Lays F G h0 v t) {Q : Flow → St → Prop} :
    ∀ (n i : Nat) (done : List Wn) (s : St), vs.length = i + n → (done.length + (idss (ts.drop i)).length) * 40 ≤ 140737488355328 → LI h bg kb vs.length p3 z top left rows cols i done s →
      (∀ s', LI h bg kb vs.length p3 z top left rows cols vs.length (done ++ plcs side vs.length (ts.drop i) i top left rows cols) s' → Q (.exit 0) s') → Code F G (.loop b64_15) s Q := by
  intro n
  induction n with
  | zero =>
    intro i done s hn hlim I hq
    obtain rfl : i = vs.length := by omega
    refine Code.loop (lay_exit I fun s' I' => hq s' ?_)
    rw [List.drop_of_length_le (by omega), plcs, List.append_nil]
    exact I'
  | succ n ih =>
    intro i done s hn hlim I hq
    have hiv : i < vs.length := by omega
    have hit : i < ts.length := by omega
    have hv := List.getElem?_eq_getElem hiv
    have ht := List.getElem?_eq_getElem hit
    have hd : ts.drop i = ts[i] :: ts.drop (i + 1) := List.drop_eq_getElem_cons hit
    rw [hd, idss, List.length_append] at hlim
    refine Code.loop (lay_round TT ho hf hbg hkb hg hkg hlen hv (hlay i _ _ hv ht) (by omega) I fun s' I' => ?_)
    refine ih (i + 1) _ s' (by omega) ?_ I' fun s'' I'' => hq s'' ?_
    · rw [List.length_append, plc_length]
      omega
    · rw [hd, plcs, ← List.append_assoc]
      exact I''

theorem lay_grp (TT : Tab F G) {h0 h : Hp} (ho : Old h0 h) (hf : FzLt h) {bg kb sz ksz : Nat} {own kown side : Bool} {vs : List Value} {ts : List Tr} {z top left rows cols : Int} (hbg : bg < h.next) (hkb : kb < h.next)
    (hg : h.t.get bg = some (.cells [.bool side, sl kb 0 vs.length 0] sz own)) (hkg : h.t.get kb = some (.cells vs ksz kown)) (hl : vs.length = ts.length) (hgood : Good (.grp side ts)) (hsmall : (ids (.grp side ts)).length ≤ 1000)
    (hlay : ∀ (i : Nat) (v : Value) (t : Tr), vs[i]? = some v → ts[i]? = some t → Lays F G h0 v t) {R : Value → Hp → Prop}
    (hr : ∀ r h', K0 h h' → WAt h' h.next r (plc (.grp side ts) top left rows cols) → R r h') : Call F G 64 [pt bg 0, .agg #[i64 z, i64 top, i64 left, i64 rows, i64 cols]] h R := by
  rw [Good] at hgood
  rw [ids] at hsmall
  have hlen : vs.length ≤ 1000 := by have := idss_len ts hgood.2; omega
  refine Call.enter (TT.g _ _ (by decide)) TT.f64 (Nat.le_of_ble_eq_true rfl) ?_
  simp only [c64, envOf]
  refine Code.seq (Code.ops ?_)
  simp only [s64_0, ↓wP, wS, Nat.reduceEqDiff, reduceIte, Nat.reduceLeDiff, and_self, cond_true, cond_false, Nat.reduceAdd, Nat.reduceMul]
  refine NewQ.intro fun p3 h1 e1 n1 g1 k1 => ?_
  simp only [↓wP, wS, Nat.reduceEqDiff, reduceIte, Nat.reduceLeDiff, and_self, cond_true, cond_false, Nat.reduceAdd, Nat.reduceMul]
  refine Code.seq (Code.ops ?_)
  simp only [s64_1, ↓wP, wS, Nat.reduceEqDiff, reduceIte, Nat.reduceLeDiff, and_self, cond_true, cond_false, Nat.reduceAdd, Nat.reduceMul]
  refine Code.seq (Code.ops ?_)
  have hg1 := k1.keep hbg (fun x => x) hg
  simp only [s64_2, ↓wP, wS, Nat.reduceEqDiff, reduceIte, Nat.reduceLeDiff, and_self, cond_true, cond_false, Nat.reduceAdd, Nat.reduceMul, rdT_of hg1]
  refine Code.seq (Code.seq (Code.ops ?_))
  simp only [s64_3, ↓wP, wS, Nat.reduceEqDiff, reduceIte, Nat.reduceLeDiff, and_self, cond_true, cond_false, Nat.reduceAdd, Nat.reduceMul, rdT_of hg1]
  refine Code.block (lay_kids TT ho hf hbg hkb hg hkg hlen hl hlay (p3 := p3) (z := z) (top := top) (left := left) (rows := rows) (cols := cols) vs.length 0 [] _ (by omega) (by rw [List.drop_zero, List.length_nil]; omega) ?_ fun s' I => ?_)
  · refine ⟨by simp only [↓wP, wS, Nat.reduceEqDiff, reduceIte, Nat.reduceLeDiff, and_self, cond_true, cond_false, Nat.reduceAdd, Nat.reduceMul], by simp only [↓wP, wS, Nat.reduceEqDiff, reduceIte, Nat.reduceLeDiff, and_self, cond_true, cond_false, Nat.reduceAdd, Nat.reduceMul], by simp only [↓wP, wS, Nat.reduceEqDiff, reduceIte, Nat.reduceLeDiff, and_self, cond_true, cond_false, Nat.reduceAdd, Nat.reduceMul], by simp only [↓wP, wS, Nat.reduceEqDiff, reduceIte, Nat.reduceLeDiff, and_self, cond_true, cond_false, Nat.reduceAdd, Nat.reduceMul], by simp only [↓wP, wS, Nat.reduceEqDiff, reduceIte, Nat.reduceLeDiff, and_self, cond_true, cond_false, Nat.reduceAdd, Nat.reduceMul], by simp only [↓wP, wS, Nat.reduceEqDiff, reduceIte, Nat.reduceLeDiff, and_self, cond_true, cond_false, Nat.reduceAdd, Nat.reduceMul]; rfl, ⟨.slice none 0 0, by simp only [↓wP, wS, Nat.reduceEqDiff, reduceIte, Nat.reduceLeDiff, and_self, cond_true, cond_false, Nat.reduceAdd, Nat.reduceMul], Acc.nil, fun hx => by cases hx⟩, k1, by omega, by simp only; omega, g1⟩
  · simp only [if_true]
    obtain ⟨e, h2⟩ := s'
    obtain ⟨e0, e3, e6, e19, e20, e21, ⟨acc, e5, hacc, hne⟩, hk, lo, hi, g3⟩ := I
    simp only at e5 hk hacc
    refine Code.seq (Code.ops ?_)
    simp only [s64_16, ↓wP, wS, Nat.reduceEqDiff, reduceIte, Nat.reduceLeDiff, and_self, cond_true, cond_false, Nat.reduceAdd, Nat.reduceMul, e5]
    refine Code.ret ?_
    simp only [resVs, resV, pack, ↓wP, wS, Nat.reduceEqDiff, reduceIte, Nat.reduceLeDiff, and_self, cond_true, cond_false, Nat.reduceAdd, Nat.reduceMul]
    rw [List.nil_append, List.drop_zero] at hacc
    obtain ⟨ha, ⟨hz, _⟩ | ⟨hp, b, rfl, hb1, hb2, hb3⟩⟩ := hacc
    · exfalso
      rw [plcs_length] at hz
      have h1 := idss_len ts hgood.2
      have h2 : 0 < ts.length := List.length_pos_iff.2 hgood.1
      omega
    · refine ⟨trivial, _, rfl, hr _ _ hk ⟨b, ?_, hb1, hb2, ?_⟩⟩
      · rw [plc, hl]
      · rw [plc, ← hl]; exact hb3

theorem lays_all (TT : Tab F G) {Z : Nat → Prop} {h0 : Hp} {v : Value} {t : Tr} (ht : TAt Z h0 v t) : Good t → (ids t).length ≤ 1000 → Lays F G h0 v t := by
  induction ht with
  | win b id sz own hb _ hg =>
    intro _ _ h z top left rows cols R ho hf hr
    simp only [invT_i, lookT_cons, Nat.reduceEqDiff, if_true, if_false, map_some', CallQ.some, reduceIte]
    refine lay_win TT hf (Nat.lt_of_lt_of_le hb ho.next) ((ho.get b hb).trans hg) fun r h' hk hw => hr r h' hk ?_
    rw [plc]
    exact hw
  | grp b kb side sz ksz own kown vs ts hb _ hg hk _ hkg hl hkids ih =>
    intro hgood hsmall h z top left rows cols R ho hf hr
    simp only [invT_i, lookT_cons, Nat.reduceEqDiff, if_true, if_false, map_some', CallQ.some, reduceIte]
    have hgood' := hgood
    rw [Good] at hgood'
    rw [ids] at hsmall
    refine lay_grp TT ho hf (Nat.lt_of_lt_of_le hb ho.next) (Nat.lt_of_lt_of_le hk ho.next) ((ho.get b hb).trans hg) ((ho.get kb hk).trans hkg) hl hgood (by rw [ids]; exact hsmall) (fun i v t hv ht => ?_) hr
    have hg2 := goods_get ts hgood'.2 i t ht
    exact ih i v t hv ht hg2.1 (by omega)
end
end Go.Eng
