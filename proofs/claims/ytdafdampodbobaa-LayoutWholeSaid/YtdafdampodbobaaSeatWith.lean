/- What comes in a window's place: with. -/
import Derived.Test.YtdafdampodbobaaSeatTree
namespace Go.Eng
set_option linter.unusedSimpArgs false
set_option linter.unusedVariables false

/-- A group's trees, where it is of this kind. -/
def flat1 (side : Bool) : Tr → List Tr
  | .win i => [.win i]
  | .grp s ks => if s = side then ks else [.grp s ks]
def flat (side : Bool) : List Tr → List Tr
  | [] => []
  | y :: r => flat1 side y ++ flat side r

def wrap (side : Bool) (l : List Tr) : List Tr := if l.length < 2 then l else [.grp side l]

mutual
def wth (id : Int) (by' : List Tr) : Tr → List Tr
  | .win i => if i = id then by' else [.win i]
  | .grp side ks => wrap side (wths id by' side ks)
def wths (id : Int) (by' : List Tr) (side : Bool) : List Tr → List Tr
  | [] => []
  | t :: r => flat side (wth id by' t) ++ wths id by' side r
end

theorem flat_append (side : Bool) (a b : List Tr) : flat side (a ++ b) = flat side a ++ flat side b := by
  induction a with
  | nil => rfl
  | cons x a ih => simp only [List.cons_append, flat, ih, List.append_assoc]
theorem idss_append (a b : List Tr) : idss (a ++ b) = idss a ++ idss b := by
  induction a with
  | nil => simp [idss]
  | cons x a ih => simp only [List.cons_append, idss, ih, List.append_assoc]
theorem goods_append (a b : List Tr) : Goods (a ++ b) ↔ Goods a ∧ Goods b := by
  induction a with
  | nil => simp [Goods]
  | cons x a ih => simp only [List.cons_append, Goods, ih, and_assoc]
theorem ids_flat1 (side : Bool) (t : Tr) : idss (flat1 side t) = ids t := by
  cases t with
  | win i => simp [flat1, idss, ids]
  | grp s ks =>
    simp only [flat1]
    split <;> simp [idss, ids]
theorem ids_flat (side : Bool) (l : List Tr) : idss (flat side l) = idss l := by
  induction l with
  | nil => rfl
  | cons x l ih => rw [flat, idss_append, ids_flat1, ih, idss]
theorem good_flat1 (side : Bool) (t : Tr) (h : Good t) : Goods (flat1 side t) := by
  cases t with
  | win i => simp [flat1, Goods, Good]
  | grp s ks =>
    simp only [flat1]
    split
    · rw [Good] at h; exact h.2
    · rw [Goods, Goods]; exact ⟨h, trivial⟩
theorem good_flat (side : Bool) (l : List Tr) (h : Goods l) : Goods (flat side l) := by
  induction l with
  | nil => exact h
  | cons x l ih => rw [Goods] at h; rw [flat, goods_append]; exact ⟨good_flat1 side x h.1, ih h.2⟩
theorem ids_wrap (side : Bool) (l : List Tr) : idss (wrap side l) = idss l := by
  unfold wrap
  split
  · rfl
  · simp [idss, ids]
theorem good_wrap (side : Bool) (l : List Tr) (h : Goods l) : Goods (wrap side l) := by
  unfold wrap
  split
  · exact h
  · rename_i hl
    rw [Goods, Goods, Good]
    exact ⟨⟨fun hx => by rw [hx] at hl; simp at hl, h⟩, trivial⟩

mutual
theorem wth_good (id : Int) (by' : List Tr) (hb : Goods by') : ∀ t, Good t → Goods (wth id by' t)
  | .win i, _ => by
    rw [wth]
    split
    · exact hb
    · simp [Goods, Good]
  | .grp side ks, h => by
    rw [Good] at h
    rw [wth]
    exact good_wrap side _ (wths_good id by' hb side ks h.2)
theorem wths_good (id : Int) (by' : List Tr) (hb : Goods by') (side : Bool) : ∀ l, Goods l → Goods (wths id by' side l)
  | [], _ => by simp [wths, Goods]
  | t :: r, h => by
    rw [Goods] at h
    rw [wths, goods_append]
    exact ⟨good_flat side _ (wth_good id by' hb t h.1), wths_good id by' hb side r h.2⟩
end
mutual
theorem wth_len (id : Int) (by' : List Tr) (hb : (idss by').length ≤ 2) : ∀ t, (idss (wth id by' t)).length ≤ 2 * (ids t).length
  | .win i => by
    rw [wth, ids]
    split
    · simpa using hb
    · simp [idss, ids]
  | .grp side ks => by
    rw [wth, ids_wrap, ids]
    exact wths_len id by' hb side ks
theorem wths_len (id : Int) (by' : List Tr) (hb : (idss by').length ≤ 2) (side : Bool) : ∀ l, (idss (wths id by' side l)).length ≤ 2 * (idss l).length
  | [] => by simp [wths, idss]
  | t :: r => by
    rw [wths, idss_append, ids_flat, idss, List.length_append, List.length_append]
    have := wth_len id by' hb t
    have := wths_len id by' hb side r
    omega
end

/-- Trees in a row, in memory. -/
def Each (Z : Nat → Prop) (h : Hp) (vs : List Value) (ts : List Tr) : Prop :=
  vs.length = ts.length ∧ ∀ (i : Nat) (v : Value) (t : Tr), vs[i]? = some v → ts[i]? = some t → TAt Z h v t

theorem Each.move {Z Z' : Nat → Prop} {h h' : Hp} (hn : h.next ≤ h'.next) (hg : ∀ b, b < h.next → Z b → h'.t.get b = h.t.get b) (hz : ∀ b, b < h.next → Z b → Z' b) {vs : List Value} {ts : List Tr} (e : Each Z h vs ts) : Each Z' h' vs ts :=
  ⟨e.1, fun i v t hv ht => (e.2 i v t hv ht).move hn hg hz⟩
theorem Each.nil {Z : Nat → Prop} {h : Hp} : Each Z h [] [] := ⟨rfl, fun i v t hv => by simp at hv⟩
theorem Each.append {Z : Nat → Prop} {h : Hp} {a b : List Value} {x y : List Tr} (e : Each Z h a x) (f : Each Z h b y) : Each Z h (a ++ b) (x ++ y) := by
  refine ⟨by simp [e.1, f.1], fun i v t hv ht => ?_⟩
  by_cases hi : i < a.length
  · rw [List.getElem?_append_left hi] at hv
    rw [List.getElem?_append_left (e.1 ▸ hi)] at ht
    exact e.2 i v t hv ht
  · rw [List.getElem?_append_right (by omega)] at hv
    rw [List.getElem?_append_right (by have := e.1; omega), ← e.1] at ht
    exact f.2 _ v t hv ht
theorem Each.single {Z : Nat → Prop} {h : Hp} {v : Value} {t : Tr} (e : TAt Z h v t) : Each Z h [v] [t] :=
  ⟨rfl, fun i v' t' hv ht => by
    cases i with
    | zero => simp at hv ht; subst hv; subst ht; exact e
    | succ i => simp at hv⟩
theorem Each.ones {Z : Nat → Prop} {h : Hp} {vs : List Value} {ts : List Tr} (e : Each Z h vs ts) : vs.all oneCell = true := by
  rw [List.all_eq_true]
  intro v hv
  obtain ⟨i, hi⟩ := List.mem_iff_getElem?.1 hv
  have hlt : i < ts.length := by have := (List.getElem?_eq_some_iff.1 hi).1; have := e.1; omega
  exact (e.2 i v _ hi (List.getElem?_eq_getElem hlt)).one

/-- A slice of trees. -/
def TLs (Z : Nat → Prop) (h : Hp) (v : Value) (ts : List Tr) : Prop :=
  (ts = [] ∧ v = .slice none 0 0) ∨ ∃ b vs sz own, v = sl b 0 vs.length 0 ∧ 0 < vs.length ∧ b < h.next ∧ Z b ∧ h.t.get b = some (.cells vs sz own) ∧ Each Z h vs ts

theorem TLs.move {Z Z' : Nat → Prop} {h h' : Hp} (hn : h.next ≤ h'.next) (hg : ∀ b, b < h.next → Z b → h'.t.get b = h.t.get b) (hz : ∀ b, b < h.next → Z b → Z' b) {v : Value} {ts : List Tr} (e : TLs Z h v ts) : TLs Z' h' v ts := by
  rcases e with ⟨rfl, rfl⟩ | ⟨b, vs, sz, own, rfl, h1, h2, h3, h4, h5⟩
  · exact .inl ⟨rfl, rfl⟩
  · exact .inr ⟨b, vs, sz, own, rfl, h1, Nat.lt_of_lt_of_le h2 hn, hz b h2 h3, (hg b h2 h3).trans h4, h5.move hn hg hz⟩

/-- The blocks of what a call answers: those of what it was given, and new ones. -/
def OrNew (Z : Nat → Prop) (n : Nat) (b : Nat) : Prop := Z b ∨ n ≤ b

section
variable {F : FuncId → Option SFunc} {G : FuncId → List Value → Option Value}

/-- What with comes to. -/
def Withs (F : FuncId → Option SFunc) (G : FuncId → List Value → Option Value) (Z : Nat → Prop) (h0 : Hp) (id : Int) (byv : Value) (by' : List Tr) (v : Value) (t : Tr) : Prop :=
  ∀ (h : Hp) (R : Value → Hp → Prop), Old h0 h → FzLt h → (∀ r h', K0 h h' → TLs (OrNew Z h.next) h' r (wth id by' t) → R r h') → Call F G 26 [v, i64 id, byv] h R

/-- What is being built: the group's block, its list; and a row of trees that is gone through meanwhile. -/
structure WB (Z : Nat → Prop) (h : Hp) (p9 : Nat) (side : Bool) (done : List Tr) (rv : Value) (rts : List Tr) (h2 : Hp) : Prop where
  heap : K0 h h2
  lo : h.next ≤ p9
  hi : p9 < h2.next
  acc : ∃ a vs, h2.t.get p9 = some (.cells [.bool side, a] 0 true) ∧ Acc h2 h.next 1 done.length vs a ∧ blkOf a ≠ some p9 ∧ Each (fun b => OrNew Z h.next b ∧ b ≠ p9 ∧ blkOf a ≠ some b) h2 vs done ∧
    TLs (fun b => OrNew Z h.next b ∧ b ≠ p9 ∧ blkOf a ≠ some b) h2 rv rts

theorem WB.later {Z : Nat → Prop} {h h2 h3 : Hp} {p9 : Nat} {side : Bool} {done : List Tr} {rv : Value} {rts : List Tr} (w : WB Z h p9 side done rv rts h2) (k : K0 h2 h3) : WB Z h p9 side done rv rts h3 := by
  obtain ⟨hk, lo, hi, a, vs, g, ha, hne, he, hr⟩ := w
  exact ⟨hk.trans k, lo, Nat.lt_of_lt_of_le hi k.next, a, vs, k.keep hi (fun x => x) g, ha.keep k.next (fun b hb => k.get b (ha.blk b hb).2 (fun x => x)), hne, he.move k.next (fun b hb _ => k.get b hb (fun x => x)) (fun _ _ hz => hz),
    hr.move k.next (fun b hb _ => k.get b hb (fun x => x)) (fun _ _ hz => hz)⟩

/-- More trees come to what is being built. -/
theorem WB.grow {Z : Nat → Prop} {h h2 h3 h4 : Hp} {p9 : Nat} {side : Bool} {done more : List Tr} {rv : Value} {rts : List Tr} {a a' : Value} {vs xs : List Value} (hk : K0 h h2) (lo : h.next ≤ p9) (hi : p9 < h2.next)
    (ha : Acc h2 h.next 1 done.length vs a) (hne : blkOf a ≠ some p9) (he : Each (fun b => OrNew Z h.next b ∧ b ≠ p9 ∧ blkOf a ≠ some b) h2 vs done) (hr : TLs (fun b => OrNew Z h.next b ∧ b ≠ p9 ∧ blkOf a ≠ some b) h2 rv rts)
    (hx : Each (fun b => OrNew Z h.next b ∧ b ≠ p9 ∧ blkOf a ≠ some b) h2 xs more) (ha' : Acc h3 h.next 1 (done.length + more.length) (vs ++ xs) a') (k3 : Kp (fun b => blkOf a = some b) h2 h3) (hb : ∀ b, blkOf a' = some b → blkOf a = some b ∨ h2.next ≤ b)
    (n4 : h4.next = h3.next) (g4 : h4.t.get p9 = some (.cells [.bool side, a'] 0 true)) (k4 : Kp (· = p9) h3 h4) : WB Z h p9 side (done ++ more) rv rts h4 := by
  have hne' : blkOf a' ≠ some p9 := fun hx => by
    rcases hb p9 hx with h1 | h1
    · exact hne h1
    · omega
  have hn : h2.next ≤ h4.next := by have := k3.next; omega
  have hg : ∀ b, b < h2.next → (OrNew Z h.next b ∧ b ≠ p9 ∧ blkOf a ≠ some b) → h4.t.get b = h2.t.get b := fun b hb' hz => by
    rw [k4.get b (by have := k3.next; omega) hz.2.1, k3.get b hb' hz.2.2]
  have hzz : ∀ b, b < h2.next → (OrNew Z h.next b ∧ b ≠ p9 ∧ blkOf a ≠ some b) → (OrNew Z h.next b ∧ b ≠ p9 ∧ blkOf a' ≠ some b) := fun b hb' hz => ⟨hz.1, hz.2.1, fun hx => by
    rcases hb b hx with h1 | h1
    · exact hz.2.2 h1
    · omega⟩
  refine ⟨(hk.andThen k3 (fun x hx hl => by have := (ha.blk x hx).1; omega)).andThen k4 (fun x hx hl => by omega), lo, by omega, a', vs ++ xs, g4, ?_, hne', (he.append hx).move hn hg hzz, hr.move hn hg hzz⟩
  rw [List.length_append]
  exact ha'.keep (by omega) fun b hb' => k4.get b (ha'.blk b hb').2 (fun hx => hne' (hx ▸ hb'))

/-- One tree comes to it. -/
theorem with_one (TT : Tab F G) {Z : Nat → Prop} {h h2 : Hp} (hf : FzLt h) {p9 : Nat} {side : Bool} {done : List Tr} {rv y : Value} {rts : List Tr} {t : Tr} {e : Env} (w : WB Z h p9 side done rv rts h2) (hd : done.length ≤ 100000)
    (hy : ∀ a, h2.t.get p9 = some (.cells [.bool side, a] 0 true) → TAt (fun b => OrNew Z h.next b ∧ b ≠ p9 ∧ blkOf a ≠ some b) h2 y t) (e9 : e.get 9 = some (pt p9 0)) (e13 : e.get 13 = some y) {Q : Flow → St → Prop}
    (hq : ∀ s', (∀ k, k ∈ [1, 2, 9, 39, 40, 41, 48, 49, 50] → s'.e.get k = e.get k) → WB Z h p9 side (done ++ [t]) rv rts s'.h → Q .next s') : Code F G (.ops s26_18) ⟨e, h2⟩ Q := by
  obtain ⟨hk, lo, hi, a, vs, g, ha, hne, he, hr⟩ := w
  have hy1 := hy a g
  refine Code.ops ?_
  have hyc : y.cells.toList = [y] := by cases hy1 <;> rfl
  simp only [s26_18, ↓wP, wS, Nat.reduceEqDiff, reduceIte, Nat.reduceLeDiff, and_self, cond_true, cond_false, Nat.reduceAdd, Nat.reduceMul, e9, e13, rdT_of g, hyc]
  refine NewQ.intro fun pm h3 em n3 g3 k3 => ?_
  simp only [↓wP, wS, Nat.reduceEqDiff, reduceIte, Nat.reduceLeDiff, and_self, cond_true, cond_false, Nat.reduceAdd, Nat.reduceMul, e9]
  have hf2 : FzLt h2 := hk.fzLt hf
  have ha3 := ha.keep (h' := h3) k3.next (fun b hb => k3.get b (ha.blk b hb).2 (fun x => x))
  have hm := k3.next
  have hk' := hk.next
  refine AppendQ.acc (n0 := h.next) (m := 1) ha3 (by omega) (Nat.le_refl _) (by omega) (by omega) ⟨_, _, rfl⟩ (cells_whole g3 rfl) rfl (by rw [List.all_cons, hy1.one]; rfl) (fun b hb => ?_) fun a' h4 ha4 k4 hb4 => ?_
  · rw [k3.fz, hk.fz]; exact hf.not_mem (ha.blk b hb).1
  · simp only [↓wP, wS, Nat.reduceEqDiff, reduceIte, Nat.reduceLeDiff, and_self, cond_true, cond_false, Nat.reduceAdd, Nat.reduceMul, e9]
    refine StoreQ.one ?_ (k4.keep (by omega) (fun hx => hne hx) (k3.keep hi (fun x => x) g)) (by simp) (by rw [k4.fz, k3.fz, hk.fz]; exact hf.not_mem lo) fun h5 n5 g5 k5 => ?_
    · obtain ⟨_, ⟨_, rfl⟩ | ⟨_, _, rfl, _⟩⟩ := ha4 <;> rfl
    · simp only [↓wP, wS, Nat.reduceEqDiff, reduceIte, Nat.reduceLeDiff, and_self, cond_true, cond_false, Nat.reduceAdd, Nat.reduceMul] at g5 ⊢
      refine hq _ (fun k hk => ?_) ?_
      · simp only [List.mem_cons, List.not_mem_nil, or_false] at hk
        rcases hk with rfl | rfl | rfl | rfl | rfl | rfl | rfl | rfl | rfl <;> simp only [↓wP, wS, Nat.reduceEqDiff, reduceIte, Nat.reduceLeDiff, and_self, cond_true, cond_false, Nat.reduceAdd, Nat.reduceMul]
      · refine WB.grow (hk.trans k3) lo (by omega) ha3 hne (he.move k3.next (fun b hb _ => k3.get b hb (fun x => x)) (fun _ _ hz => hz)) (hr.move k3.next (fun b hb _ => k3.get b hb (fun x => x)) (fun _ _ hz => hz))
          (Each.single (hy1.move k3.next (fun b hb _ => k3.get b hb (fun x => x)) (fun _ _ hz => hz))) ha4 k4 hb4 n5 g5 k5

/-- A group's trees come to it. -/
theorem with_many (TT : Tab F G) {Z : Nat → Prop} {h h2 : Hp} (hf : FzLt h) {p9 : Nat} {side s : Bool} {done ks : List Tr} {rv : Value} {rts : List Tr} {b : Nat} {e : Env} (w : WB Z h p9 side done rv rts h2) (hd : done.length ≤ 100000) (hd2 : ks.length ≤ 100000)
    (hy : ∀ a, h2.t.get p9 = some (.cells [.bool side, a] 0 true) → TAt (fun b => OrNew Z h.next b ∧ b ≠ p9 ∧ blkOf a ≠ some b) h2 (.iface 60 (pt b 0)) (.grp s ks)) (e9 : e.get 9 = some (pt p9 0)) (e14 : e.get 14 = some (pt b 0)) {Q : Flow → St → Prop}
    (hq : ∀ s', (∀ k, k ∈ [1, 2, 9, 39, 40, 41, 48, 49, 50] → s'.e.get k = e.get k) → WB Z h p9 side (done ++ ks) rv rts s'.h → Q .next s') : Code F G (.draw s26_17) ⟨e, h2⟩ Q := by
  obtain ⟨hk, lo, hi, a, vs, g, ha, hne, he, hr⟩ := w
  have hy1 := hy a g
  cases hy1 with
  | grp _ kb _ sz ksz own kown kvs _ hb hzb hgb hkb hkz hkg hl hkids =>
  refine Code.draw ?_
  simp only [s26_17, ↓wP, wS, Nat.reduceEqDiff, reduceIte, Nat.reduceLeDiff, and_self, cond_true, cond_false, Nat.reduceAdd, Nat.reduceMul, ↓Draw.cons, dS, decide_true, decide_false, e9, e14, rdT_of g, rdT_of hgb]
  have hk' := hk.next
  have hkl : kvs.length = ks.length := hl
  refine AppendQ.acc (n0 := h.next) (m := kvs.length) (h := ⟨h2.t, h2.next, h2.fz⟩) ha (by omega) (Nat.le_refl _) (by omega) (by omega) ⟨_, _, rfl⟩ (cells_whole (h := ⟨h2.t, h2.next, h2.fz⟩) hkg (by omega)) (by omega) (Each.ones ⟨hl, hkids⟩) (fun b hb => ?_) fun a' h4 ha4 k4 hb4 => ?_
  · show b ∉ h2.fz
    rw [hk.fz]; exact hf.not_mem (ha.blk b hb).1
  · simp only [↓wP, wS, Nat.reduceEqDiff, reduceIte, Nat.reduceLeDiff, and_self, cond_true, cond_false, Nat.reduceAdd, Nat.reduceMul, ↓Draw.cons, dS, decide_true, decide_false, e9]
    refine StoreQ.one ?_ (k4.keep hi (fun hx => hne hx) g) (by simp) (by show p9 ∉ h2.fz; rw [hk.fz]; exact hf.not_mem lo) fun h5 n5 g5 k5 => ?_
    · obtain ⟨_, ⟨_, rfl⟩ | ⟨_, _, rfl, _⟩⟩ := ha4 <;> rfl
    · simp only [↓wP, wS, Nat.reduceEqDiff, reduceIte, Nat.reduceLeDiff, and_self, cond_true, cond_false, Nat.reduceAdd, Nat.reduceMul, ↓Draw.cons, dS, decide_true, decide_false] at g5 ⊢
      refine hq _ (fun k hk => ?_) ?_
      · simp only [List.mem_cons, List.not_mem_nil, or_false] at hk
        rcases hk with rfl | rfl | rfl | rfl | rfl | rfl | rfl | rfl | rfl <;> simp only [↓wP, wS, Nat.reduceEqDiff, reduceIte, Nat.reduceLeDiff, and_self, cond_true, cond_false, Nat.reduceAdd, Nat.reduceMul]
      · refine WB.grow hk lo hi ha hne he hr ⟨hl, hkids⟩ (h3 := h4) (hkl ▸ ha4) ⟨k4.next, k4.get, k4.fz⟩ hb4 n5 g5 ⟨k5.next, k5.get, ?_⟩
        have := k4.fz
        simp only at this ⊢
        rw [this]

/-- One of a row comes to it: itself, or its trees. -/
theorem with_inner (TT : Tab F G) {Z : Nat → Prop} {h h2 : Hp} (hf : FzLt h) {p9 j : Nat} {side : Bool} {done : List Tr} {rv : Value} {rts : List Tr} {t : Tr} {e : Env} (w : WB Z h p9 side done rv rts h2) (hd : done.length ≤ 100000) (ht : rts[j]? = some t) (ht2 : (flat1 side t).length ≤ 100000) (hrl : rts.length ≤ 100000)
    (e9 : e.get 9 = some (pt p9 0)) (e48 : e.get 48 = some rv) (e49 : e.get 49 = some (i64 rts.length)) (e50 : e.get 50 = some (i64 j)) {Q : Flow → St → Prop}
    (hq : ∀ s', (∀ k, k ∈ [1, 2, 9, 39, 40, 41, 48, 49] → s'.e.get k = e.get k) → s'.e.get 50 = some (i64 (j + 1 : Nat)) → WB Z h p9 side (done ++ flat1 side t) rv rts s'.h → Q .next s') : Code F G b26_20 ⟨e, h2⟩ Q := by
  have hjl := (List.getElem?_eq_some_iff.1 ht).1
  have hlt : (j : Int) < (rts.length : Int) := by omega
  have h0j : (0 : Int) ≤ (j : Int) := by omega
  have hw2 : w64 ((j : Int) + 1) = j + 1 := w64_id (by omega) (by omega)
  have fin : ∀ s' : St, (∀ k, k ∈ [1, 2, 9, 39, 40, 41, 48, 49, 50] → s'.e.get k = e.get k) → WB Z h p9 side (done ++ flat1 side t) rv rts s'.h → Code F G (.ops s26_19) s' Q := by
    intro s' hs hw
    obtain ⟨e', h'⟩ := s'
    have q50 := hs 50 (by simp)
    simp only [e50] at q50
    refine Code.ops ?_
    simp only [s26_19, ↓wP, wS, Nat.reduceEqDiff, reduceIte, Nat.reduceLeDiff, and_self, cond_true, cond_false, Nat.reduceAdd, Nat.reduceMul, q50, hw2]
    refine hq _ (fun k hk => ?_) (by simp only [↓wP, wS, Nat.reduceEqDiff, reduceIte, Nat.reduceLeDiff, and_self, cond_true, cond_false, Nat.reduceAdd, Nat.reduceMul]; rfl) hw
    have := hs k (by simp only [List.mem_cons, List.not_mem_nil, or_false] at hk ⊢; omega)
    simp only at this ⊢
    simp only [List.mem_cons, List.not_mem_nil, or_false] at hk
    rcases hk with rfl | rfl | rfl | rfl | rfl | rfl | rfl | rfl <;> simp only [↓wP, wS, Nat.reduceEqDiff, reduceIte, Nat.reduceLeDiff, and_self, cond_true, cond_false, Nat.reduceAdd, Nat.reduceMul, this]
  refine Code.seq (Code.ops ?_)
  simp only [s26_13, ↓wP, wS, Nat.reduceEqDiff, reduceIte, Nat.reduceLeDiff, and_self, cond_true, cond_false, Nat.reduceAdd, Nat.reduceMul, e49, e50, hlt, decide_true]
  refine Code.seq (Code.cond (t := true) (by simp only [↓wP, wS, Nat.reduceEqDiff, reduceIte, Nat.reduceLeDiff, and_self, cond_true, cond_false, Nat.reduceAdd, Nat.reduceMul]) (fun _ => Code.skip ?_) (fun h => by cases h))
  have hw := w
  obtain ⟨hk, lo, hi, a, vs, g, ha, hne, he, hr⟩ := w
  rcases hr with ⟨rfl, _⟩ | ⟨b, rvs, sz, own, rfl, hp, hb, hzb, hgb, hel, hevery⟩
  · simp at ht
  have hjv : j < rvs.length := by omega
  have hv := List.getElem?_eq_getElem hjv
  have hy := hevery j _ t hv ht
  have hlt' : (j : Int) < (rvs.length : Int) := by omega
  refine Code.seq (Code.block (Code.seq (Code.ops ?_)))
  simp only [s26_14, ↓wP, wS, Nat.reduceEqDiff, reduceIte, Nat.reduceLeDiff, and_self, cond_true, cond_false, Nat.reduceAdd, Nat.reduceMul, e48, e50, h0j, hlt', and_self, if_true, Int.toNat_natCast, Nat.mul_one, rdT_of hgb, hv]
  refine Code.seq (Code.ops ?_)
  generalize rvs[j] = y at hv hy
  have hya : ∀ a', h2.t.get p9 = some (.cells [.bool side, a'] 0 true) → TAt (fun b => OrNew Z h.next b ∧ b ≠ p9 ∧ blkOf a' ≠ some b) h2 y t := by
    intro a' g'
    rw [g] at g'
    cases g'
    exact hy
  have mem9 : ∀ (e1 e2 : Env), (∀ k, k ∈ [1, 2, 9, 39, 40, 41, 48, 49, 50] → e1.get k = e2.get k) → (∀ k, k ∈ [1, 2, 9, 39, 40, 41, 48, 49, 50] → e2.get k = e.get k) → ∀ k, k ∈ [1, 2, 9, 39, 40, 41, 48, 49, 50] → e1.get k = e.get k := fun e1 e2 a b k hk => (a k hk).trans (b k hk)
  cases hy with
  | win bw id wsz wown hbw hzw hgw =>
    simp only [s26_15, ↓wP, wS, Nat.reduceEqDiff, reduceIte, Nat.reduceLeDiff, and_self, cond_true, cond_false, Nat.reduceAdd, Nat.reduceMul]
    refine Code.seq (Code.draw ?_)
    simp only [s26_16, ↓wP, wS, Nat.reduceEqDiff, reduceIte, Nat.reduceLeDiff, and_self, cond_true, cond_false, Nat.reduceAdd, Nat.reduceMul, ↓Draw.cons, dS, decide_true, decide_false, e9]
    refine Code.cond (t := false) (by simp only [↓wP, wS, Nat.reduceEqDiff, reduceIte, Nat.reduceLeDiff, and_self, cond_true, cond_false, Nat.reduceAdd, Nat.reduceMul]) (fun h => by cases h) (fun _ => ?_)
    refine with_one TT hf (h2 := h2) (rv := sl b 0 rvs.length 0) (rts := rts) (done := done) (side := side) (t := .win id) hw hd hya (by simp only [↓wP, wS, Nat.reduceEqDiff, reduceIte, Nat.reduceLeDiff, and_self, cond_true, cond_false, Nat.reduceAdd, Nat.reduceMul, e9]) (by simp only [↓wP, wS, Nat.reduceEqDiff, reduceIte, Nat.reduceLeDiff, and_self, cond_true, cond_false, Nat.reduceAdd, Nat.reduceMul]) fun s' hs hw' => ?_
    refine fin s' (mem9 _ _ hs fun k hk => ?_) hw'
    simp only [List.mem_cons, List.not_mem_nil, or_false] at hk
    rcases hk with rfl | rfl | rfl | rfl | rfl | rfl | rfl | rfl | rfl <;> simp only [↓wP, wS, Nat.reduceEqDiff, reduceIte, Nat.reduceLeDiff, and_self, cond_true, cond_false, Nat.reduceAdd, Nat.reduceMul]
  | grp bg kb s gsz ksz gown kown kvs ks hbg hzg hgg hkb hkz hkg hkl hkids =>
    simp only [s26_15, ↓wP, wS, Nat.reduceEqDiff, reduceIte, Nat.reduceLeDiff, and_self, cond_true, cond_false, Nat.reduceAdd, Nat.reduceMul]
    refine Code.seq (Code.draw ?_)
    simp only [s26_16, ↓wP, wS, Nat.reduceEqDiff, reduceIte, Nat.reduceLeDiff, and_self, cond_true, cond_false, Nat.reduceAdd, Nat.reduceMul, ↓Draw.cons, dS, decide_true, decide_false, e9, rdT_of hgg, rdT_of g]
    refine Code.cond (t := s == side) (by simp only [↓wP, wS, Nat.reduceEqDiff, reduceIte, Nat.reduceLeDiff, and_self, cond_true, cond_false, Nat.reduceAdd, Nat.reduceMul]) (fun hs => ?_) (fun hs => ?_)
    · have hss : s = side := by simpa using hs
      subst hss
      have hfl : flat1 s (.grp s ks) = ks := by simp [flat1]
      rw [hfl] at ht2
      refine with_many TT hf (h2 := h2) (rv := sl b 0 rvs.length 0) (rts := rts) (done := done) (side := s) (s := s) (ks := ks) (b := bg) hw hd ht2 hya (by simp only [↓wP, wS, Nat.reduceEqDiff, reduceIte, Nat.reduceLeDiff, and_self, cond_true, cond_false, Nat.reduceAdd, Nat.reduceMul, e9]) (by simp only [↓wP, wS, Nat.reduceEqDiff, reduceIte, Nat.reduceLeDiff, and_self, cond_true, cond_false, Nat.reduceAdd, Nat.reduceMul]) fun s' hs' hw' => ?_
      rw [hfl] at fin
      refine fin s' (mem9 _ _ hs' fun k hk => ?_) hw'
      simp only [List.mem_cons, List.not_mem_nil, or_false] at hk
      rcases hk with rfl | rfl | rfl | rfl | rfl | rfl | rfl | rfl | rfl <;> simp only [↓wP, wS, Nat.reduceEqDiff, reduceIte, Nat.reduceLeDiff, and_self, cond_true, cond_false, Nat.reduceAdd, Nat.reduceMul]
    · have hss : s ≠ side := by simpa using hs
      have hfl : flat1 side (.grp s ks) = [.grp s ks] := by simp [flat1, hss]
      rw [hfl] at fin
      refine with_one TT hf (h2 := h2) (rv := sl b 0 rvs.length 0) (rts := rts) (done := done) (side := side) (t := .grp s ks) hw hd hya (by simp only [↓wP, wS, Nat.reduceEqDiff, reduceIte, Nat.reduceLeDiff, and_self, cond_true, cond_false, Nat.reduceAdd, Nat.reduceMul, e9]) (by simp only [↓wP, wS, Nat.reduceEqDiff, reduceIte, Nat.reduceLeDiff, and_self, cond_true, cond_false, Nat.reduceAdd, Nat.reduceMul]) fun s' hs' hw' => ?_
      refine fin s' (mem9 _ _ hs' fun k hk => ?_) hw'
      simp only [List.mem_cons, List.not_mem_nil, or_false] at hk
      rcases hk with rfl | rfl | rfl | rfl | rfl | rfl | rfl | rfl | rfl <;> simp only [↓wP, wS, Nat.reduceEqDiff, reduceIte, Nat.reduceLeDiff, and_self, cond_true, cond_false, Nat.reduceAdd, Nat.reduceMul]

theorem flat_length_le (side : Bool) (l : List Tr) (hg : Goods l) : (flat side l).length ≤ (idss l).length := by
  rw [← ids_flat side l]
  exact idss_len _ (good_flat side l hg)

theorem with_row (TT : Tab F G) {Z : Nat → Prop} {h : Hp} (hf : FzLt h) {p9 : Nat} {side : Bool} {rv : Value} {rts : List Tr} (hrl : rts.length ≤ 100000) {Q : Flow → St → Prop} :
    ∀ (n j : Nat) (done : List Tr) (s : St), rts.length = j + n → WB Z h p9 side done rv rts s.h → done.length + (flat side (rts.drop j)).length ≤ 100000 →
      s.e.get 9 = some (pt p9 0) → s.e.get 48 = some rv → s.e.get 49 = some (i64 rts.length) → s.e.get 50 = some (i64 j) →
      (∀ s', (∀ k, k ∈ [1, 2, 9, 39, 40, 41] → s'.e.get k = s.e.get k) → WB Z h p9 side (done ++ flat side (rts.drop j)) rv rts s'.h → Q (.exit 3) s') → Code F G (.loop b26_20) s Q := by
  intro n
  induction n with
  | zero =>
    intro j done s hn w _ e9 e48 e49 e50 hq
    obtain rfl : j = rts.length := by omega
    obtain ⟨e, h2⟩ := s
    simp only at e9 e48 e49 e50 w hq
    refine Code.loop (Code.seq (Code.ops ?_))
    simp only [s26_13, ↓wP, wS, Nat.reduceEqDiff, reduceIte, Nat.reduceLeDiff, and_self, cond_true, cond_false, Nat.reduceAdd, Nat.reduceMul, e49, e50, Int.lt_irrefl, decide_false]
    refine Code.seq (Code.cond (t := false) (by simp only [↓wP, wS, Nat.reduceEqDiff, reduceIte, Nat.reduceLeDiff, and_self, cond_true, cond_false, Nat.reduceAdd, Nat.reduceMul]) (fun h => by cases h) (fun _ => Code.exit ?_))
    rw [List.drop_of_length_le (Nat.le_refl _), flat, List.append_nil] at hq
    refine hq _ (fun k hk => ?_) w
    simp only [List.mem_cons, List.not_mem_nil, or_false] at hk
    rcases hk with rfl | rfl | rfl | rfl | rfl | rfl <;> simp only [↓wP, wS, Nat.reduceEqDiff, reduceIte, Nat.reduceLeDiff, and_self, cond_true, cond_false, Nat.reduceAdd, Nat.reduceMul]
  | succ n ih =>
    intro j done s hn w hlim e9 e48 e49 e50 hq
    have hjt : j < rts.length := by omega
    have hd : rts.drop j = rts[j] :: rts.drop (j + 1) := List.drop_eq_getElem_cons hjt
    rw [hd, flat] at hq hlim
    rw [List.length_append] at hlim
    obtain ⟨e, h2⟩ := s
    simp only at e9 e48 e49 e50 w hq
    refine Code.loop (with_inner TT hf w (by omega) (List.getElem?_eq_getElem hjt) (by omega) hrl e9 e48 e49 e50 fun s' hs h50 w' => ?_)
    refine ih (j + 1) _ s' (by omega) w' (by rw [List.length_append]; omega) ((hs 9 (by simp)).trans e9) ((hs 48 (by simp)).trans e48) ((hs 49 (by simp)).trans e49) h50 fun s'' hs'' w'' => ?_
    refine hq s'' (fun k hk => (hs'' k hk).trans (hs k ?_)) (by rw [← List.append_assoc]; exact w'')
    simp only [List.mem_cons, List.not_mem_nil, or_false] at hk ⊢
    omega

/-- A row's length. -/
theorem TLs.len {Z : Nat → Prop} {h : Hp} {v : Value} {ts : List Tr} (e : TLs Z h v ts) : lenV (some v) = some (i64 ts.length) := by
  rcases e with ⟨rfl, rfl⟩ | ⟨b, vs, sz, own, rfl, _, _, _, _, h5⟩
  · rfl
  · rw [← h5.1]; rfl

structure WO (h : Hp) (kb k p9 : Nat) (id : Int) (byv : Value) (i : Nat) (s : St) : Prop where
  e1 : s.e.get 1 = some (i64 id)
  e2 : s.e.get 2 = some byv
  e9 : s.e.get 9 = some (pt p9 0)
  e39 : s.e.get 39 = some (sl kb 0 k 0)
  e40 : s.e.get 40 = some (i64 k)
  e41 : s.e.get 41 = some (i64 i)

theorem with_kid (TT : Tab F G) {Z : Nat → Prop} {h0 h : Hp} (ho : Old h0 h) (hf : FzLt h) (hZ : ∀ b, Z b → b < h.next) {kb p9 ksz i : Nat} {kown side : Bool} {vs : List Value} {id : Int} {byv v : Value} {by' done : List Tr} {t : Tr} (hkb : kb < h.next)
    (hkg : h.t.get kb = some (.cells vs ksz kown)) (hlen : vs.length ≤ 1000) (hv : vs[i]? = some v) (hw : Withs F G Z h0 id byv by' v t) (hgl : (wth id by' t).length ≤ 100000) (hlim : done.length + (flat side (wth id by' t)).length ≤ 100000) {s : St}
    (I : WO h kb vs.length p9 id byv i s) (w : WB Z h p9 side done (.slice none 0 0) [] s.h) {Q : Flow → St → Prop}
    (hq : ∀ s', WO h kb vs.length p9 id byv (i + 1) s' → WB Z h p9 side (done ++ flat side (wth id by' t)) (.slice none 0 0) [] s'.h → Q .next s') : Code F G b26_22 s Q := by
  obtain ⟨e, h2⟩ := s
  obtain ⟨e1, e2, e9, e39, e40, e41⟩ := I
  simp only at e1 e2 e9 e39 e40 e41 w
  have hil := (List.getElem?_eq_some_iff.1 hv).1
  have hlt : (i : Int) < (vs.length : Int) := by omega
  have h0i : (0 : Int) ≤ (i : Int) := by omega
  have hw2 : w64 ((i : Int) + 1) = i + 1 := w64_id (by omega) (by omega)
  have hkg2 := w.heap.keep hkb (fun x => x) hkg
  refine Code.seq (Code.ops ?_)
  simp only [s26_10, ↓wP, wS, Nat.reduceEqDiff, reduceIte, Nat.reduceLeDiff, and_self, cond_true, cond_false, Nat.reduceAdd, Nat.reduceMul, e40, e41, hlt, decide_true]
  refine Code.seq (Code.cond (t := true) (by simp only [↓wP, wS, Nat.reduceEqDiff, reduceIte, Nat.reduceLeDiff, and_self, cond_true, cond_false, Nat.reduceAdd, Nat.reduceMul]) (fun _ => Code.skip ?_) (fun h => by cases h))
  refine Code.seq (Code.block (Code.seq (Code.ops ?_)))
  simp only [s26_11, ↓wP, wS, Nat.reduceEqDiff, reduceIte, Nat.reduceLeDiff, and_self, cond_true, cond_false, Nat.reduceAdd, Nat.reduceMul, e39, e41, hlt, h0i, and_self, if_true, Int.toNat_natCast, Nat.mul_one, rdT_of hkg2, hv]
  refine Code.seq (Code.ops ?_)
  simp only [s26_12, ↓wP, wS, Nat.reduceEqDiff, reduceIte, Nat.reduceLeDiff, and_self, cond_true, cond_false, Nat.reduceAdd, Nat.reduceMul, e1, e2]
  refine hw h2 _ (ho.trans w.heap.old) (w.heap.fzLt hf) fun r h3 k3 hr => ?_
  simp only [↓wP, wS, Nat.reduceEqDiff, reduceIte, Nat.reduceLeDiff, and_self, cond_true, cond_false, Nat.reduceAdd, Nat.reduceMul, hr.len]
  have w3 : WB Z h p9 side done r (wth id by' t) h3 := by
    have w' := w.later k3
    obtain ⟨hk, lo, hi, a, dvs, g, ha, hne, he, _⟩ := w
    obtain ⟨hk', lo', hi', a', dvs', g', ha', hne', he', _⟩ := w'
    have haa : a' = a := by
      have := k3.keep hi (fun x => x) g
      rw [this] at g'
      cases g'
      rfl
    subst haa
    refine ⟨hk', lo', hi', a', dvs', g', ha', hne', he', hr.move (Nat.le_refl _) (fun _ _ _ => rfl) fun b hb hz => ?_⟩
    rcases hz with hz | hz
    · have := hZ b hz
      exact ⟨.inl hz, by omega, fun hx => by have := (ha.blk b hx).1; omega⟩
    · have := hk.next
      exact ⟨.inr (by omega), by omega, fun hx => by have := (ha.blk b hx).2; omega⟩
  refine Code.block (with_row TT hf hgl (wth id by' t).length 0 done _ (by omega) w3 (by rw [List.drop_zero]; exact hlim) (by simp only [↓wP, wS, Nat.reduceEqDiff, reduceIte, Nat.reduceLeDiff, and_self, cond_true, cond_false, Nat.reduceAdd, Nat.reduceMul, e9]) (by simp only [↓wP, wS, Nat.reduceEqDiff, reduceIte, Nat.reduceLeDiff, and_self, cond_true, cond_false, Nat.reduceAdd, Nat.reduceMul]) (by simp only [↓wP, wS, Nat.reduceEqDiff, reduceIte, Nat.reduceLeDiff, and_self, cond_true, cond_false, Nat.reduceAdd, Nat.reduceMul]) (by simp only [↓wP, wS, Nat.reduceEqDiff, reduceIte, Nat.reduceLeDiff, and_self, cond_true, cond_false, Nat.reduceAdd, Nat.reduceMul]; rfl) fun s' hs w' => ?_)
  simp only [if_true]
  obtain ⟨e', h4⟩ := s'
  have q1 := hs 1 (by simp)
  have q2 := hs 2 (by simp)
  have q9 := hs 9 (by simp)
  have q39 := hs 39 (by simp)
  have q40 := hs 40 (by simp)
  have q41 := hs 41 (by simp)
  simp only [↓wP, wS, Nat.reduceEqDiff, reduceIte, Nat.reduceLeDiff, and_self, cond_true, cond_false, Nat.reduceAdd, Nat.reduceMul, e1, e2, e9, e39, e40, e41] at q1 q2 q9 q39 q40 q41
  refine Code.ops ?_
  simp only [s26_21, ↓wP, wS, Nat.reduceEqDiff, reduceIte, Nat.reduceLeDiff, and_self, cond_true, cond_false, Nat.reduceAdd, Nat.reduceMul, q41, hw2]
  rw [List.drop_zero] at w'
  obtain ⟨hk, lo, hi, a, dvs, g, ha, hne, he, _⟩ := w'
  exact hq _ ⟨by simp only [↓wP, wS, Nat.reduceEqDiff, reduceIte, Nat.reduceLeDiff, and_self, cond_true, cond_false, Nat.reduceAdd, Nat.reduceMul, q1], by simp only [↓wP, wS, Nat.reduceEqDiff, reduceIte, Nat.reduceLeDiff, and_self, cond_true, cond_false, Nat.reduceAdd, Nat.reduceMul, q2], by simp only [↓wP, wS, Nat.reduceEqDiff, reduceIte, Nat.reduceLeDiff, and_self, cond_true, cond_false, Nat.reduceAdd, Nat.reduceMul, q9], by simp only [↓wP, wS, Nat.reduceEqDiff, reduceIte, Nat.reduceLeDiff, and_self, cond_true, cond_false, Nat.reduceAdd, Nat.reduceMul, q39], by simp only [↓wP, wS, Nat.reduceEqDiff, reduceIte, Nat.reduceLeDiff, and_self, cond_true, cond_false, Nat.reduceAdd, Nat.reduceMul, q40], by simp only [↓wP, wS, Nat.reduceEqDiff, reduceIte, Nat.reduceLeDiff, and_self, cond_true, cond_false, Nat.reduceAdd, Nat.reduceMul]; rfl⟩ ⟨hk, lo, hi, a, dvs, g, ha, hne, he, .inl ⟨rfl, rfl⟩⟩

theorem with_kids (TT : Tab F G) {Z : Nat → Prop} {h0 h : Hp} (ho : Old h0 h) (hf : FzLt h) (hZ : ∀ b, Z b → b < h.next) {kb p9 ksz : Nat} {kown side : Bool} {vs : List Value} {ts : List Tr} {id : Int} {byv : Value} {by' : List Tr} (hkb : kb < h.next)
    (hkg : h.t.get kb = some (.cells vs ksz kown)) (hlen : vs.length ≤ 1000) (hl : vs.length = ts.length) (hg : Goods ts) (hsm : (idss ts).length ≤ 1000) (hb : Goods by') (hb2 : (idss by').length ≤ 2)
    (hw : ∀ (i : Nat) (v : Value) (t : Tr), vs[i]? = some v → ts[i]? = some t → Withs F G Z h0 id byv by' v t) {Q : Flow → St → Prop} :
    ∀ (n i : Nat) (done : List Tr) (s : St), vs.length = i + n → Goods (ts.drop i) → done.length + 2 * (idss (ts.drop i)).length ≤ 100000 → WO h kb vs.length p9 id byv i s → WB Z h p9 side done (.slice none 0 0) [] s.h →
      (∀ s', s'.e.get 9 = some (pt p9 0) → WB Z h p9 side (done ++ wths id by' side (ts.drop i)) (.slice none 0 0) [] s'.h → Q (.exit 1) s') → Code F G (.loop b26_22) s Q := by
  intro n
  induction n with
  | zero =>
    intro i done s hn _ _ I w hq
    obtain rfl : i = vs.length := by omega
    obtain ⟨e, h2⟩ := s
    obtain ⟨e1, e2, e9, e39, e40, e41⟩ := I
    simp only at e1 e2 e9 e39 e40 e41 w
    refine Code.loop (Code.seq (Code.ops ?_))
    simp only [s26_10, ↓wP, wS, Nat.reduceEqDiff, reduceIte, Nat.reduceLeDiff, and_self, cond_true, cond_false, Nat.reduceAdd, Nat.reduceMul, e40, e41, Int.lt_irrefl, decide_false]
    refine Code.seq (Code.cond (t := false) (by simp only [↓wP, wS, Nat.reduceEqDiff, reduceIte, Nat.reduceLeDiff, and_self, cond_true, cond_false, Nat.reduceAdd, Nat.reduceMul]) (fun h => by cases h) (fun _ => Code.exit ?_))
    rw [List.drop_of_length_le (by omega), wths, List.append_nil] at hq
    exact hq _ (by simp only [↓wP, wS, Nat.reduceEqDiff, reduceIte, Nat.reduceLeDiff, and_self, cond_true, cond_false, Nat.reduceAdd, Nat.reduceMul, e9]) w
  | succ n ih =>
    intro i done s hn hgd hlim I w hq
    have hiv : i < vs.length := by omega
    have hit : i < ts.length := by omega
    have hd : ts.drop i = ts[i] :: ts.drop (i + 1) := List.drop_eq_getElem_cons hit
    rw [hd, wths] at hq
    rw [hd, Goods] at hgd
    rw [hd, idss, List.length_append] at hlim
    have h1 := wth_len id by' hb2 ts[i]
    have h2 := wth_good id by' hb ts[i] hgd.1
    have h3 := flat_length_le side _ h2
    have h4 := idss_len _ h2
    refine Code.loop (with_kid TT ho hf hZ hkb hkg hlen (List.getElem?_eq_getElem hiv) (hw i _ _ (List.getElem?_eq_getElem hiv) (List.getElem?_eq_getElem hit)) (by omega) (by omega) I w fun s' I' w' => ?_)
    refine ih (i + 1) _ s' (by omega) hgd.2 (by rw [List.length_append]; omega) I' w' fun s'' e9 w'' => ?_
    exact hq s'' e9 (by rw [← List.append_assoc]; exact w'')

theorem with_win (TT : Tab F G) {Z : Nat → Prop} {h : Hp} (hf : FzLt h) {b sz : Nat} {own : Bool} {i id : Int} {byv : Value} {by' : List Tr} (hbl : b < h.next) (hz : Z b) (hg : h.t.get b = some (.cells [i64 i] sz own)) (hby : TLs Z h byv by') {R : Value → Hp → Prop}
    (hr : ∀ r h', K0 h h' → TLs (OrNew Z h.next) h' r (wth id by' (.win i)) → R r h') : Call F G 26 [.iface 61 (pt b 0), i64 id, byv] h R := by
  refine Call.enter (TT.g _ _ (by decide)) TT.f26 (Nat.le_of_ble_eq_true rfl) ?_
  simp only [c26, envOf]
  refine Code.seq (Code.ops ?_)
  simp only [s26_0, ↓wP, wS, Nat.reduceEqDiff, reduceIte, Nat.reduceLeDiff, and_self, cond_true, cond_false, Nat.reduceAdd, Nat.reduceMul]
  refine Code.seq (Code.seq (Code.ops ?_))
  simp only [s26_1, ↓wP, wS, Nat.reduceEqDiff, reduceIte, Nat.reduceLeDiff, and_self, cond_true, cond_false, Nat.reduceAdd, Nat.reduceMul]
  refine Code.block (Code.seq (Code.ops ?_))
  simp only [s26_2, ↓wP, wS, Nat.reduceEqDiff, reduceIte, Nat.reduceLeDiff, and_self, cond_true, cond_false, Nat.reduceAdd, Nat.reduceMul]
  refine Code.cond (t := true) (by simp only [↓wP, wS, Nat.reduceEqDiff, reduceIte, Nat.reduceLeDiff, and_self, cond_true, cond_false, Nat.reduceAdd, Nat.reduceMul]) (fun _ => Code.seq (Code.ops ?_)) (fun h => by cases h)
  simp only [s26_3, ↓wP, wS, Nat.reduceEqDiff, reduceIte, Nat.reduceLeDiff, and_self, cond_true, cond_false, Nat.reduceAdd, Nat.reduceMul]
  refine Code.seq (Code.ops ?_)
  simp only [s26_4, ↓wP, wS, Nat.reduceEqDiff, reduceIte, Nat.reduceLeDiff, and_self, cond_true, cond_false, Nat.reduceAdd, Nat.reduceMul, rdT_of hg]
  refine Code.cond (t := decide (i = id)) (by simp only [↓wP, wS, Nat.reduceEqDiff, reduceIte, Nat.reduceLeDiff, and_self, cond_true, cond_false, Nat.reduceAdd, Nat.reduceMul]) (fun hx => ?_) (fun hx => ?_)
  · rw [decide_eq_true_eq] at hx
    refine Code.seq (Code.ops ?_)
    simp only [s26_5, ↓wP, wS, Nat.reduceEqDiff, reduceIte, Nat.reduceLeDiff, and_self, cond_true, cond_false, Nat.reduceAdd, Nat.reduceMul]
    refine Code.ret ?_
    simp only [resVs, resV, pack, ↓wP, wS, Nat.reduceEqDiff, reduceIte, Nat.reduceLeDiff, and_self, cond_true, cond_false, Nat.reduceAdd, Nat.reduceMul]
    refine ⟨trivial, _, rfl, hr _ _ Kp.refl ?_⟩
    rw [wth, if_pos hx]
    exact hby.move (Nat.le_refl _) (fun _ _ _ => rfl) (fun _ _ hz => .inl hz)
  · rw [decide_eq_false_iff_not] at hx
    refine Code.skip ?_
    refine Code.seq (Code.ops ?_)
    simp only [s26_26, ↓wP, wS, Nat.reduceEqDiff, reduceIte, Nat.reduceLeDiff, and_self, cond_true, cond_false, Nat.reduceAdd, Nat.reduceMul]
    refine NewQ.intro fun pm h3 em n3 g3 k3 => ?_
    simp only [↓wP, wS, Nat.reduceEqDiff, reduceIte, Nat.reduceLeDiff, and_self, cond_true, cond_false, Nat.reduceAdd, Nat.reduceMul]
    refine Code.ret ?_
    simp only [resVs, resV, pack, ↓wP, wS, Nat.reduceEqDiff, reduceIte, Nat.reduceLeDiff, and_self, cond_true, cond_false, Nat.reduceAdd, Nat.reduceMul]
    refine ⟨trivial, _, rfl, hr _ _ k3 ?_⟩
    rw [wth, if_neg hx]
    exact .inr ⟨pm, _, _, _, rfl, by simp, by omega, .inr (by omega), g3, Each.single (.win b i sz own (by omega) (.inl hz) (k3.keep hbl (fun x => x) hg))⟩

theorem with_grp (TT : Tab F G) {Z : Nat → Prop} {h0 h : Hp} (ho : Old h0 h) (hf : FzLt h) (hZ : ∀ b, Z b → b < h.next) {bg kb sz ksz : Nat} {own kown side : Bool} {vs : List Value} {ts : List Tr} {id : Int} {byv : Value} {by' : List Tr} (hbg : bg < h.next) (hkb : kb < h.next)
    (hg : h.t.get bg = some (.cells [.bool side, sl kb 0 vs.length 0] sz own)) (hkg : h.t.get kb = some (.cells vs ksz kown)) (hl : vs.length = ts.length) (hgood : Good (.grp side ts)) (hsm : (ids (.grp side ts)).length ≤ 1000) (hb : Goods by') (hb2 : (idss by').length ≤ 2)
    (hw : ∀ (i : Nat) (v : Value) (t : Tr), vs[i]? = some v → ts[i]? = some t → Withs F G Z h0 id byv by' v t) {R : Value → Hp → Prop}
    (hr : ∀ r h', K0 h h' → TLs (OrNew Z h.next) h' r (wth id by' (.grp side ts)) → R r h') : Call F G 26 [.iface 60 (pt bg 0), i64 id, byv] h R := by
  rw [Good] at hgood
  rw [ids] at hsm
  have hlen : vs.length ≤ 1000 := by have := idss_len ts hgood.2; omega
  refine Call.enter (TT.g _ _ (by decide)) TT.f26 (Nat.le_of_ble_eq_true rfl) ?_
  simp only [c26, envOf]
  refine Code.seq (Code.ops ?_)
  simp only [s26_0, ↓wP, wS, Nat.reduceEqDiff, reduceIte, Nat.reduceLeDiff, and_self, cond_true, cond_false, Nat.reduceAdd, Nat.reduceMul]
  refine Code.seq (Code.seq (Code.ops ?_))
  simp only [s26_1, ↓wP, wS, Nat.reduceEqDiff, reduceIte, Nat.reduceLeDiff, and_self, cond_true, cond_false, Nat.reduceAdd, Nat.reduceMul]
  refine Code.block (Code.seq (Code.ops ?_))
  simp only [s26_2, ↓wP, wS, Nat.reduceEqDiff, reduceIte, Nat.reduceLeDiff, and_self, cond_true, cond_false, Nat.reduceAdd, Nat.reduceMul]
  refine Code.cond (t := false) (by simp only [↓wP, wS, Nat.reduceEqDiff, reduceIte, Nat.reduceLeDiff, and_self, cond_true, cond_false, Nat.reduceAdd, Nat.reduceMul]) (fun h => by cases h) (fun _ => Code.seq (Code.ops ?_))
  simp only [s26_6, ↓wP, wS, Nat.reduceEqDiff, reduceIte, Nat.reduceLeDiff, and_self, cond_true, cond_false, Nat.reduceAdd, Nat.reduceMul]
  refine Code.cond (t := true) (by simp only [↓wP, wS, Nat.reduceEqDiff, reduceIte, Nat.reduceLeDiff, and_self, cond_true, cond_false, Nat.reduceAdd, Nat.reduceMul]) (fun _ => Code.seq (Code.ops ?_)) (fun h => by cases h)
  simp only [s26_7, ↓wP, wS, Nat.reduceEqDiff, reduceIte, Nat.reduceLeDiff, and_self, cond_true, cond_false, Nat.reduceAdd, Nat.reduceMul]
  refine Code.seq (Code.ops ?_)
  simp only [s26_8, ↓wP, wS, Nat.reduceEqDiff, reduceIte, Nat.reduceLeDiff, and_self, cond_true, cond_false, Nat.reduceAdd, Nat.reduceMul, rdT_of hg]
  refine NewQ.intro fun p9 h1 e1 n1 g1 k1 => ?_
  simp only [↓wP, wS, Nat.reduceEqDiff, reduceIte, Nat.reduceLeDiff, and_self, cond_true, cond_false, Nat.reduceAdd, Nat.reduceMul]
  have hg1 := k1.keep hbg (fun x => x) hg
  refine Code.seq (Code.seq (Code.ops ?_))
  simp only [s26_9, ↓wP, wS, Nat.reduceEqDiff, reduceIte, Nat.reduceLeDiff, and_self, cond_true, cond_false, Nat.reduceAdd, Nat.reduceMul, rdT_of hg1]
  have w0 : WB Z h p9 side [] (.slice none 0 0) [] h1 := ⟨k1, by omega, by omega, .slice none 0 0, [], g1, Acc.nil, fun hx => (by cases hx), Each.nil, .inl ⟨rfl, rfl⟩⟩
  refine Code.block (with_kids TT ho hf hZ hkb hkg hlen hl hgood.2 hsm hb hb2 hw vs.length 0 [] _ (by omega) (by rw [List.drop_zero]; exact hgood.2) (by rw [List.drop_zero, List.length_nil]; omega)
    ⟨by simp only [↓wP, wS, Nat.reduceEqDiff, reduceIte, Nat.reduceLeDiff, and_self, cond_true, cond_false, Nat.reduceAdd, Nat.reduceMul], by simp only [↓wP, wS, Nat.reduceEqDiff, reduceIte, Nat.reduceLeDiff, and_self, cond_true, cond_false, Nat.reduceAdd, Nat.reduceMul], by simp only [↓wP, wS, Nat.reduceEqDiff, reduceIte, Nat.reduceLeDiff, and_self, cond_true, cond_false, Nat.reduceAdd, Nat.reduceMul], by simp only [↓wP, wS, Nat.reduceEqDiff, reduceIte, Nat.reduceLeDiff, and_self, cond_true, cond_false, Nat.reduceAdd, Nat.reduceMul], by simp only [↓wP, wS, Nat.reduceEqDiff, reduceIte, Nat.reduceLeDiff, and_self, cond_true, cond_false, Nat.reduceAdd, Nat.reduceMul], by simp only [↓wP, wS, Nat.reduceEqDiff, reduceIte, Nat.reduceLeDiff, and_self, cond_true, cond_false, Nat.reduceAdd, Nat.reduceMul]; rfl⟩ w0 fun s' e9 w => ?_)
  simp only [if_true]
  rw [List.drop_zero, List.nil_append] at w
  obtain ⟨e, h2⟩ := s'
  obtain ⟨hk, lo, hi, a, dvs, g, ha, hne, he, _⟩ := w
  simp only at e9 g hi hk ha he
  have hal : lenV (some a) = some (i64 (wths id by' side ts).length) := by
    obtain ⟨_, ⟨h1, rfl⟩ | ⟨_, b, rfl, _⟩⟩ := ha
    · rw [h1]; rfl
    · rfl
  refine Code.seq (Code.seq (Code.ops ?_))
  simp only [s26_23, ↓wP, wS, Nat.reduceEqDiff, reduceIte, Nat.reduceLeDiff, and_self, cond_true, cond_false, Nat.reduceAdd, Nat.reduceMul, e9, rdT_of g, hal]
  have hwr : wth id by' (.grp side ts) = wrap side (wths id by' side ts) := by rw [wth]
  rw [hwr] at hr
  by_cases hlt : (wths id by' side ts).length < 2
  · refine Code.cond (t := true) (by simp only [↓wP, wS, Nat.reduceEqDiff, reduceIte, Nat.reduceLeDiff, and_self, cond_true, cond_false, Nat.reduceAdd, Nat.reduceMul]; rw [decide_eq_true (by omega)]) (fun _ => Code.seq (Code.ops ?_)) (fun h => by cases h)
    simp only [s26_24, ↓wP, wS, Nat.reduceEqDiff, reduceIte, Nat.reduceLeDiff, and_self, cond_true, cond_false, Nat.reduceAdd, Nat.reduceMul, e9, rdT_of g]
    refine Code.ret ?_
    simp only [resVs, resV, pack, ↓wP, wS, Nat.reduceEqDiff, reduceIte, Nat.reduceLeDiff, and_self, cond_true, cond_false, Nat.reduceAdd, Nat.reduceMul]
    refine ⟨trivial, _, rfl, hr _ _ hk ?_⟩
    rw [wrap, if_pos hlt]
    obtain ⟨hal, ⟨h1, rfl⟩ | ⟨hp, b, rfl, hb1, hb2', hb3⟩⟩ := ha
    · exact .inl ⟨List.eq_nil_of_length_eq_zero h1, rfl⟩
    · have hdl : dvs.length = (wths id by' side ts).length := by omega
      exact .inr ⟨b, dvs, _, _, by rw [hdl], by omega, hb2', .inr hb1, hb3, he.move (Nat.le_refl _) (fun _ _ _ => rfl) (fun _ _ hz => hz.1)⟩
  · refine Code.cond (t := false) (by simp only [↓wP, wS, Nat.reduceEqDiff, reduceIte, Nat.reduceLeDiff, and_self, cond_true, cond_false, Nat.reduceAdd, Nat.reduceMul]; rw [decide_eq_false (by omega)]) (fun h => by cases h) (fun _ => Code.skip ?_)
    refine Code.seq (Code.ops ?_)
    simp only [s26_25, ↓wP, wS, Nat.reduceEqDiff, reduceIte, Nat.reduceLeDiff, and_self, cond_true, cond_false, Nat.reduceAdd, Nat.reduceMul, e9]
    refine NewQ.intro fun pm h3 em n3 g3 k3 => ?_
    simp only [↓wP, wS, Nat.reduceEqDiff, reduceIte, Nat.reduceLeDiff, and_self, cond_true, cond_false, Nat.reduceAdd, Nat.reduceMul]
    refine Code.ret ?_
    simp only [resVs, resV, pack, ↓wP, wS, Nat.reduceEqDiff, reduceIte, Nat.reduceLeDiff, and_self, cond_true, cond_false, Nat.reduceAdd, Nat.reduceMul]
    refine ⟨trivial, _, rfl, hr _ _ (hk.trans k3) ?_⟩
    rw [wrap, if_neg hlt]
    obtain ⟨hal, ⟨h1, rfl⟩ | ⟨hp, b, rfl, hb1, hb2', hb3⟩⟩ := ha
    · omega
    · have hdl : dvs.length = (wths id by' side ts).length := by omega
      refine .inr ⟨pm, _, _, _, rfl, by simp, by omega, .inr (by have := hk.next; omega), g3, Each.single (.grp p9 b side 0 1 true true dvs _ (by omega) (.inr lo) (by rw [hdl]; exact k3.keep hi (fun x => x) g) (by omega) (.inr hb1) (k3.keep hb2' (fun x => x) hb3) hdl fun i v t hv ht => ?_)⟩
      exact (he.2 i v t hv ht).move k3.next (fun b hb _ => k3.get b hb (fun x => x)) (fun _ _ hz => hz.1)

theorem withs_all (TT : Tab F G) {Z : Nat → Prop} {h0 : Hp} {v byv : Value} {t : Tr} {id : Int} {by' : List Tr} (hZ : ∀ b, Z b → b < h0.next) (hb : Goods by') (hb2 : (idss by').length ≤ 2) (hby : TLs Z h0 byv by') (ht : TAt Z h0 v t) : Good t → (ids t).length ≤ 1000 → Withs F G Z h0 id byv by' v t := by
  induction ht with
  | win b i sz own hbl hz hg =>
    intro _ _ h R ho hf hr
    exact with_win TT hf (Nat.lt_of_lt_of_le hbl ho.next) hz ((ho.get b hbl).trans hg) (hby.move ho.next (fun b hb _ => ho.get b hb) (fun _ _ hz => hz)) hr
  | grp b kb side sz ksz own kown vs ts hbl hz hg hk hkz hkg hl hkids ih =>
    intro hgood hsm h R ho hf hr
    have hgood' := hgood
    rw [Good] at hgood'
    have hsm' := hsm
    rw [ids] at hsm'
    refine with_grp TT ho hf (fun b hb => Nat.lt_of_lt_of_le (hZ b hb) ho.next) (Nat.lt_of_lt_of_le hbl ho.next) (Nat.lt_of_lt_of_le hk ho.next) ((ho.get b hbl).trans hg) ((ho.get kb hk).trans hkg) hl hgood hsm hb hb2 (fun i v t hv ht => ?_) hr
    have hg2 := goods_get ts hgood'.2 i t ht
    exact ih i v t hv ht hg2.1 (by omega)
end
end Go.Eng
