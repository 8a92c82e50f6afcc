/- The document's put. -/
import Derived.Test.YtdafdampodbobaaSeatRefE
namespace Go.Eng
set_option linter.unusedSimpArgs false
set_option linter.unusedVariables false

mutual
def putT (id : Int) (x : Tr) : Tr → Tr
  | .win i => if i = id then x else .win i
  | .grp side ks => .grp side (putTs id x ks)
def putTs (id : Int) (x : Tr) : List Tr → List Tr
  | [] => []
  | t :: r => putT id x t :: putTs id x r
end

theorem putTs_len (id : Int) (x : Tr) : ∀ l, (putTs id x l).length = l.length
  | [] => by simp [putTs]
  | t :: r => by simp [putTs, putTs_len id x r]

mutual
theorem putT_good (id : Int) (x : Tr) (hx : Good x) : ∀ t, Good t → Good (putT id x t)
  | .win i, h => by
    rw [putT]
    split
    · exact hx
    · exact h
  | .grp side ks, h => by
    rw [Good] at h
    rw [putT, Good]
    refine ⟨fun hn => h.1 ?_, putTs_good id x hx ks h.2⟩
    have := putTs_len id x ks
    rw [hn] at this
    exact List.eq_nil_of_length_eq_zero (by simpa using this.symm)
theorem putTs_good (id : Int) (x : Tr) (hx : Good x) : ∀ l, Goods l → Goods (putTs id x l)
  | [], _ => by simp [putTs, Goods]
  | t :: r, h => by
    rw [Goods] at h
    rw [putTs, Goods]
    exact ⟨putT_good id x hx t h.1, putTs_good id x hx r h.2⟩
end
mutual
theorem putT_len (id : Int) (x : Tr) (hx : (ids x).length ≤ 2) : ∀ t, (ids (putT id x t)).length ≤ 2 * (ids t).length
  | .win i => by
    rw [putT]
    split
    · simp only [ids, List.length_singleton]; omega
    · simp [ids]
  | .grp side ks => by
    rw [putT, ids, ids]
    exact putTs_idlen id x hx ks
theorem putTs_idlen (id : Int) (x : Tr) (hx : (ids x).length ≤ 2) : ∀ l, (idss (putTs id x l)).length ≤ 2 * (idss l).length
  | [] => by simp [putTs, idss]
  | t :: r => by
    rw [putTs, idss, idss, List.length_append, List.length_append]
    have := putT_len id x hx t
    have := putTs_idlen id x hx r
    omega
end

section
/-- More nodes come to a row, while cells are held. -/
theorem NB.appendD {Z : Nat → Prop} {h h2 : Hp} {keep : Nat → Prop} {done more : List Tr} {a x : Value} {xs : List (List Value)} {Q : Value → Hp → Prop} (w : NB Z h keep done a ⟨h2.t, h2.next, h.fz⟩) (hfz : ∀ b, b ∈ h2.fz → b < h.next ∨ blkOf a ≠ some b) (hkeep : ∀ b, keep b → b < h2.next) (hd : done.length ≤ 100000) (hm : more.length ≤ 100000)
    (hx : ∃ base cf, x = .slice base more.length cf) (hxs : sliceCells h2 3 x = some xs.flatten) (he : EachN (fun b => (OrNew Z h.next b ∧ ¬ keep b) ∧ blkOf a ≠ some b) h2 xs more)
    (hq : ∀ a' h3, NB Z h keep (done ++ more) a' ⟨h3.t, h3.next, h.fz⟩ → Kp (fun b => blkOf a = some b) h2 h3 → Q a' h3) : AppendQ h2 3 40 (some a) (some x) Q := by
  obtain ⟨hk, ⟨ns, ha, hn⟩, hnk⟩ := w
  have e3 := he.three
  have ha' : Acc h2 h.next 3 done.length ns.flatten a := ha
  have hnx : h.next ≤ h2.next := hk.next
  refine AppendQ.acc (n0 := h.next) ha' hnx (by omega) (by omega) (by omega) hx hxs (by rw [e3.1, he.1]) e3.2 (fun b hb hm' => ?_) fun a' h3 ha2 k3 hb' => ?_
  · rcases hfz b hm' with h1 | h1
    · have := (ha'.blk b hb).1
      omega
    · exact h1 hb
  · have hzz : ∀ b, b < h2.next → ((OrNew Z h.next b ∧ ¬ keep b) ∧ blkOf a ≠ some b) → ((OrNew Z h.next b ∧ ¬ keep b) ∧ blkOf a' ≠ some b) := fun b hb hz => ⟨hz.1, fun hx => by
      rcases hb' b hx with h1 | h1
      · exact hz.2 h1
      · omega⟩
    have kx : K0 h ⟨h3.t, h3.next, h.fz⟩ := by
      refine ⟨?_, fun b hb _ => ?_, rfl⟩
      · have := k3.next
        simp only
        omega
      · exact (k3.get b (by omega) (fun hx => by have := (ha'.blk b hx).1; omega)).trans (hk.get b hb (fun x => x))
    refine hq a' h3 ⟨kx, ⟨ns ++ xs, ?_, ?_⟩, fun b hb hkb => ?_⟩ k3
    · rw [List.flatten_append, List.length_append]
      exact ha2
    · have hn2 : EachN (fun b => (OrNew Z h.next b ∧ ¬ keep b) ∧ blkOf a ≠ some b) h2 ns done := hn.move (h := ⟨h2.t, h2.next, h.fz⟩) (h' := h2) (Nat.le_refl _) (fun _ _ _ => rfl) (fun _ _ hz => hz)
      exact ((hn2.append he).move (h := h2) (h' := ⟨h3.t, h3.next, h.fz⟩) k3.next (fun b hb hz => k3.get b hb hz.2) hzz)
    · rcases hb' b hb with h1 | h1
      · exact hnk b h1 hkb
      · have := hkeep b hkb
        omega

variable {F : FuncId → Option SFunc} {G : FuncId → List Value → Option Value}

def Puts (F : FuncId → Option SFunc) (G : FuncId → List Value → Option Value) (Z : Nat → Prop) (h0 : Hp) (id : Int) (nx : List Value) (x : Tr) (n : List Value) (t : Tr) : Prop :=
  ∀ (h : Hp) (R : Value → Hp → Prop), Old h0 h → FzLt h → (∀ n' h', K0 h h' → NAt (OrNew Z h.next) h' n' (putT id x t) → R (.agg n'.toArray) h') → Call F G 45 [.agg n.toArray, i64 id, .agg nx.toArray] h R

structure UI (h : Hp) (p3 p5 p6 p7 kb k : Nat) (side : Bool) (id : Int) (nx : List Value) (a : Value) (i : Nat) (s : St) : Prop where
  e1 : s.e.get 1 = some (i64 id)
  e3 : s.e.get 3 = some (pt p3 0)
  e5 : s.e.get 5 = some (pt p5 0)
  e6 : s.e.get 6 = some (pt p6 0)
  e7 : s.e.get 7 = some (pt p7 0)
  e8 : s.e.get 8 = some (i64 i)
  b3 : h.next ≤ p3 ∧ p3 < p5
  b5 : p5 < p6
  b6 : p6 < p7
  b7 : p7 < s.h.next
  g3 : s.h.t.get p3 = some (.cells [i64 (kindV side), i64 0, sl kb 0 k 0] 0 true)
  g5 : s.h.t.get p5 = some (.cells nx 0 true)
  g6 : s.h.t.get p6 = some (.cells [i64 0, i64 0, .slice none 0 0] 0 true)
  g7 : s.h.t.get p7 = some (.cells [i64 (kindV side), i64 0, a] 0 true)

def four (p3 p5 p6 p7 b : Nat) : Prop := b = p3 ∨ b = p5 ∨ b = p6 ∨ b = p7

theorem put_round (TT : Tab F G) {Z : Nat → Prop} {h0 h : Hp} (ho : Old h0 h) (hf : FzLt h) (hZ : ∀ b, Z b → b < h.next) {p3 p5 p6 p7 kb sz i : Nat} {own side : Bool} {id : Int} {nx : List Value} {x : Tr} {ns : List (List Value)} {n : List Value} {t : Tr} {done : List Tr} {a : Value} (hkb : kb < h.next) (hkg : h.t.get kb = some (.cells ns.flatten sz own)) (h3 : ∀ n ∈ ns, n.length = 3) (hlen : ns.length ≤ 1000) (hx3 : nx.length = 3)
    (hn : ns[i]? = some n) (hp : Puts F G Z h0 id nx x n t) (hd : done.length ≤ 1000) {s : St} (I : UI h p3 p5 p6 p7 kb ns.length side id nx a i s) (w : NB Z h (four p3 p5 p6 p7) done a s.h) {Q : Flow → St → Prop}
    (hq : ∀ a' s', UI h p3 p5 p6 p7 kb ns.length side id nx a' (i + 1) s' → NB Z h (four p3 p5 p6 p7) (done ++ [putT id x t]) a' s'.h → Q .next s') : Code F G b45_10 s Q := by
  obtain ⟨e, h2⟩ := s
  obtain ⟨e1, e3, e5, e6, e7, e8, b3, b5, b6, b7, g3, g5, g6, g7⟩ := I
  simp only at e1 e3 e5 e6 e7 e8 b3 b5 b6 b7 g3 g5 g6 g7 w
  have hil : i < ns.length := (List.getElem?_eq_some_iff.1 hn).1
  have hlt : (i : Int) < (ns.length : Int) := by omega
  have h0i : (0 : Int) ≤ (i : Int) := by omega
  have hw2 : w64 ((i : Int) + 1) = i + 1 := w64_id (by omega) (by omega)
  have hkg2 := w.heap.keep hkb (fun x => x) hkg
  have hfz2 := w.heap.fz
  refine Code.seq (Code.seq (Code.ops ?_))
  simp only [s45_7, ↓wP, wS, Nat.reduceEqDiff, reduceIte, Nat.reduceLeDiff, and_self, cond_true, cond_false, Nat.reduceAdd, Nat.reduceMul, e3, e8, rdT_of g3, hlt, decide_true]
  refine Code.cond (t := true) (by simp only [↓wP, wS, Nat.reduceEqDiff, reduceIte, Nat.reduceLeDiff, and_self, cond_true, cond_false, Nat.reduceAdd, Nat.reduceMul]) (fun _ => Code.skip ?_) (fun h => by cases h)
  refine Code.seq (Code.block (Code.draw ?_))
  have rx := rdN_of (n := 3) (o := 0) g5 (by omega)
  have rx' : rdN h2.t p5 0 3 = some nx := by rw [rx, List.drop_zero, ← hx3, List.take_length]
  simp only [s45_8, ↓wP, wS, Nat.reduceEqDiff, reduceIte, Nat.reduceLeDiff, and_self, cond_true, cond_false, Nat.reduceAdd, Nat.reduceMul, ↓Draw.cons, dS, decide_true, decide_false, fzStep_load, e1, e3, e5, e7, e8, rdT_of g3, rdT_of g7, hlt, h0i, and_self, if_true, Int.toNat_natCast, rdN_n hkg2 h3 hn, rx']
  have hwn : h.next ≤ h2.next := w.heap.next
  refine hp _ _ ⟨Nat.le_trans ho.next hwn, fun b hb => (w.heap.get b (Nat.lt_of_lt_of_le hb ho.next) (fun x => x)).trans (ho.get b hb)⟩ (fun b hb => ?_) fun n' h4 k4 hn' => ?_
  · simp only [List.mem_cons] at hb ⊢
    rcases hb with rfl | rfl | hb
    · omega
    · omega
    · rw [hfz2] at hb
      have := hf b hb
      omega
  have o4 := k4.old'
  have nx4 : h2.next ≤ h4.next := o4.next
  have n3 := hn'.three
  simp only [↓wP, wS, Nat.reduceEqDiff, reduceIte, Nat.reduceLeDiff, and_self, cond_true, cond_false, Nat.reduceAdd, Nat.reduceMul, ↓Draw.cons, dS, decide_true, decide_false, n3.1]
  refine NewQ.intro fun pm h5 e5' n5 g5' k5 => ?_
  rw [List.append_nil] at g5'
  have o5 := k5.old'
  simp only at e5' n5
  simp only [↓wP, wS, Nat.reduceEqDiff, reduceIte, Nat.reduceLeDiff, and_self, cond_true, cond_false, Nat.reduceAdd, Nat.reduceMul, ↓Draw.cons, dS, decide_true, decide_false]
  have o25 := o4.trans o5
  have W5 : NB Z h (four p3 p5 p6 p7) done a ⟨h5.t, h5.next, h.fz⟩ := by
    refine w.later (h3 := ⟨h5.t, h5.next, h.fz⟩) ⟨by simp only; omega, fun b hb _ => o25.get b hb, hfz2.symm⟩
  refine NB.appendD (h2 := ⟨h5.t, h5.next, _⟩) (more := [putT id x t]) (xs := [n']) W5 (fun b hb => ?_) (fun b hb => ?_) (by omega) (by simp) ⟨_, _, rfl⟩ (by rw [show ([n'].flatten) = n' by simp]; exact cells_whole (h := ⟨h5.t, h5.next, _⟩) g5' (by rw [n3.1])) (EachN.single ?_) fun a' h6 w6 k6 => ?_
  · simp only [List.mem_cons] at hb
    rcases hb with hb | hb
    · exact .inr (fun hx => w.nk b hx (.inl hb))
    · rw [hfz2] at hb
      exact .inl (hf b hb)
  · unfold four at hb
    simp only
    omega
  · refine hn'.move (h := h4) (h' := ⟨h5.t, h5.next, p3 :: h2.fz⟩) (by simp only; omega) (fun b hb _ => o5.get b hb) (fun b hb hz => ?_)
    obtain ⟨_, ⟨dns, ha, _⟩, _⟩ := w
    unfold four
    rcases hz with hz | hz
    · have := hZ b hz
      exact ⟨⟨.inl hz, by omega⟩, fun hx => by have := (ha.blk b hx).1; omega⟩
    · simp only at hz
      exact ⟨⟨.inr (by omega), by omega⟩, fun hx => by have := (ha.blk b hx).2; omega⟩
  have hk6 : ∀ b, four p3 p5 p6 p7 b → h6.t.get b = h2.t.get b := fun b hb => by
    have hb2 : b < h2.next := by unfold four at hb; omega
    exact (k6.get b (by simp only; omega) (fun hx => w.nk b hx hb)).trans (o25.get b hb2)
  have G3 := (hk6 p3 (.inl rfl)).trans g3
  have G5 := (hk6 p5 (.inr (.inl rfl))).trans g5
  have G6 := (hk6 p6 (.inr (.inr (.inl rfl)))).trans g6
  have G7 := (hk6 p7 (.inr (.inr (.inr rfl)))).trans g7
  have nx6 : h5.next ≤ h6.next := k6.next
  have hone : oneCell a' = true := by
    obtain ⟨_, ⟨dns, ha, _⟩, _⟩ := w6
    obtain ⟨_, ⟨_, rfl⟩ | ⟨_, b, rfl, _⟩⟩ := ha <;> rfl
  simp only [↓wP, wS, Nat.reduceEqDiff, reduceIte, Nat.reduceLeDiff, and_self, cond_true, cond_false, Nat.reduceAdd, Nat.reduceMul, ↓Draw.cons, dS, decide_true, decide_false, e7]
  refine StoreQ.one (h := ⟨h6.t, h6.next, _⟩) hone G7 (by simp) (fun hm => ?_) fun h7 n7 g7' k7 => ?_
  · simp only at hm
    rw [hfz2] at hm
    have := hf p7 hm
    omega
  simp only at n7
  simp only [↓wP, wS, Nat.reduceEqDiff, reduceIte, Nat.reduceLeDiff, and_self, cond_true, cond_false, Nat.reduceAdd, Nat.reduceMul, ↓Draw.cons, dS, decide_true, decide_false] at g7' ⊢
  refine Code.ops ?_
  simp only [s45_9, ↓wP, wS, Nat.reduceEqDiff, reduceIte, Nat.reduceLeDiff, and_self, cond_true, cond_false, Nat.reduceAdd, Nat.reduceMul, e8, hw2]
  have W7 : NB Z h (four p3 p5 p6 p7) (done ++ [putT id x t]) a' ⟨h7.t, h7.next, h.fz⟩ := by
    obtain ⟨hk, ⟨dns, ha, he⟩, hnk⟩ := w6
    have hg7 : ∀ b, b < h6.next → b ≠ p7 → h7.t.get b = h6.t.get b := fun b hb hx => k7.get b hb hx
    refine ⟨⟨by simp only; omega, fun b hb hx => (hg7 b (by omega) (by omega)).trans (hk.get b hb hx), rfl⟩, ⟨dns, ?_, ?_⟩, hnk⟩
    · exact ha.keep (h' := ⟨h7.t, h7.next, h.fz⟩) (by simp only; omega) (fun b hb => hg7 b (ha.blk b hb).2 (fun hx => hnk b hb (hx ▸ .inr (.inr (.inr rfl)))))
    · exact he.move (h := ⟨h6.t, h6.next, h.fz⟩) (h' := ⟨h7.t, h7.next, h.fz⟩) (by simp only; omega) (fun b hb hz => hg7 b hb (fun hx => hz.1.2 (hx ▸ .inr (.inr (.inr rfl))))) (fun _ _ hz => hz)
  refine hq a' _ ⟨by simp only [↓wP, wS, Nat.reduceEqDiff, reduceIte, Nat.reduceLeDiff, and_self, cond_true, cond_false, Nat.reduceAdd, Nat.reduceMul, e1], by simp only [↓wP, wS, Nat.reduceEqDiff, reduceIte, Nat.reduceLeDiff, and_self, cond_true, cond_false, Nat.reduceAdd, Nat.reduceMul, e3], by simp only [↓wP, wS, Nat.reduceEqDiff, reduceIte, Nat.reduceLeDiff, and_self, cond_true, cond_false, Nat.reduceAdd, Nat.reduceMul, e5], by simp only [↓wP, wS, Nat.reduceEqDiff, reduceIte, Nat.reduceLeDiff, and_self, cond_true, cond_false, Nat.reduceAdd, Nat.reduceMul, e6], by simp only [↓wP, wS, Nat.reduceEqDiff, reduceIte, Nat.reduceLeDiff, and_self, cond_true, cond_false, Nat.reduceAdd, Nat.reduceMul, e7], by simp only [↓wP, wS, Nat.reduceEqDiff, reduceIte, Nat.reduceLeDiff, and_self, cond_true, cond_false, Nat.reduceAdd, Nat.reduceMul]; rfl, b3, b5, b6, by simp only; omega, ?_, ?_, ?_, g7'⟩ ?_
  · exact (k7.get p3 (by simp only; omega) (by omega)).trans G3
  · exact (k7.get p5 (by simp only; omega) (by omega)).trans G5
  · exact (k7.get p6 (by simp only; omega) (by omega)).trans G6
  · rw [hfz2]
    exact W7

theorem put_exit {Z : Nat → Prop} {h : Hp} {p3 p5 p6 p7 kb k : Nat} {side : Bool} {id : Int} {nx : List Value} {done : List Tr} {a : Value} {s : St} (I : UI h p3 p5 p6 p7 kb k side id nx a k s) {Q : Flow → St → Prop}
    (hq : ∀ s', s'.h = s.h → UI h p3 p5 p6 p7 kb k side id nx a k s' → Q (.exit 0) s') : Code F G b45_10 s Q := by
  obtain ⟨e, h2⟩ := s
  obtain ⟨e1, e3, e5, e6, e7, e8, b3, b5, b6, b7, g3, g5, g6, g7⟩ := I
  simp only at e1 e3 e5 e6 e7 e8 b3 b5 b6 b7 g3 g5 g6 g7
  refine Code.seq (Code.seq (Code.ops ?_))
  simp only [s45_7, ↓wP, wS, Nat.reduceEqDiff, reduceIte, Nat.reduceLeDiff, and_self, cond_true, cond_false, Nat.reduceAdd, Nat.reduceMul, e3, e8, rdT_of g3, Int.lt_irrefl, decide_false]
  refine Code.cond (t := false) (by simp only [↓wP, wS, Nat.reduceEqDiff, reduceIte, Nat.reduceLeDiff, and_self, cond_true, cond_false, Nat.reduceAdd, Nat.reduceMul]) (fun h => by cases h) (fun _ => Code.exit ?_)
  exact hq _ rfl ⟨by simp only [↓wP, wS, Nat.reduceEqDiff, reduceIte, Nat.reduceLeDiff, and_self, cond_true, cond_false, Nat.reduceAdd, Nat.reduceMul, e1], by simp only [↓wP, wS, Nat.reduceEqDiff, reduceIte, Nat.reduceLeDiff, and_self, cond_true, cond_false, Nat.reduceAdd, Nat.reduceMul, e3], by simp only [↓wP, wS, Nat.reduceEqDiff, reduceIte, Nat.reduceLeDiff, and_self, cond_true, cond_false, Nat.reduceAdd, Nat.reduceMul, e5], by simp only [↓wP, wS, Nat.reduceEqDiff, reduceIte, Nat.reduceLeDiff, and_self, cond_true, cond_false, Nat.reduceAdd, Nat.reduceMul, e6], by simp only [↓wP, wS, Nat.reduceEqDiff, reduceIte, Nat.reduceLeDiff, and_self, cond_true, cond_false, Nat.reduceAdd, Nat.reduceMul, e7], by simp only [↓wP, wS, Nat.reduceEqDiff, reduceIte, Nat.reduceLeDiff, and_self, cond_true, cond_false, Nat.reduceAdd, Nat.reduceMul, e8], b3, b5, b6, b7, g3, g5, g6, g7⟩

theorem put_loop (TT : Tab F G) {Z : Nat → Prop} {h0 h : Hp} (ho : Old h0 h) (hf : FzLt h) (hZ : ∀ b, Z b → b < h.next) {p3 p5 p6 p7 kb sz : Nat} {own side : Bool} {id : Int} {nx : List Value} {x : Tr} {ns : List (List Value)} {ts : List Tr} (hkb : kb < h.next) (hkg : h.t.get kb = some (.cells ns.flatten sz own)) (h3 : ∀ n ∈ ns, n.length = 3) (hl : ns.length = ts.length) (hlen : ns.length ≤ 1000) (hx3 : nx.length = 3)
    (hp : ∀ (i : Nat) (n : List Value) (t : Tr), ns[i]? = some n → ts[i]? = some t → Puts F G Z h0 id nx x n t) {Q : Flow → St → Prop} :
    ∀ (m i : Nat) (done : List Tr) (a : Value) (s : St), ns.length = i + m → done.length = i → UI h p3 p5 p6 p7 kb ns.length side id nx a i s → NB Z h (four p3 p5 p6 p7) done a s.h →
      (∀ a' s', UI h p3 p5 p6 p7 kb ns.length side id nx a' ns.length s' → NB Z h (four p3 p5 p6 p7) (done ++ putTs id x (ts.drop i)) a' s'.h → Q (.exit 0) s') → Code F G (.loop b45_10) s Q := by
  intro m
  induction m with
  | zero =>
    intro i done a s hn hd I w hq
    obtain rfl : i = ns.length := by omega
    refine Code.loop (put_exit (Z := Z) (done := done) I fun s' he I' => hq a s' I' ?_)
    rw [List.drop_of_length_le (by omega), putTs, List.append_nil, he]
    exact w
  | succ m ih =>
    intro i done a s hn hdl I w hq
    have hiv : i < ns.length := by omega
    have hit : i < ts.length := by omega
    have hv := List.getElem?_eq_getElem hiv
    have ht := List.getElem?_eq_getElem hit
    have hd : ts.drop i = ts[i] :: ts.drop (i + 1) := List.drop_eq_getElem_cons hit
    refine Code.loop (put_round TT ho hf hZ (own := own) (sz := sz) hkb hkg h3 hlen hx3 hv (hp i _ _ hv ht) (by omega) I w fun a' s' I' w' => ?_)
    refine ih (i + 1) _ a' s' (by omega) (by simp [hdl]) I' w' fun a'' s'' I'' w'' => hq a'' s'' I'' ?_
    rw [hd, putTs]
    rw [List.append_assoc, List.singleton_append] at w''
    exact w''

theorem put_all (TT : Tab F G) {Z : Nat → Prop} {h0 : Hp} (hZ : ∀ b, Z b → b < h0.next) {id : Int} {nx : List Value} {x : Tr} (hx : NAt Z h0 nx x) {n : List Value} {t : Tr} (ht : NAt Z h0 n t) : Good t → (ids t).length ≤ 1000 → Puts F G Z h0 id nx x n t := by
  have hx3 := hx.three
  induction ht with
  | win i =>
    intro _ _ h R ho hf hr
    refine Call.enter (TT.g _ _ (by decide)) TT.f45 (Nat.le_of_ble_eq_true rfl) ?_
    simp only [c45, envOf]
    refine Code.seq (Code.ops ?_)
    simp only [s45_0, ↓wP, wS, Nat.reduceEqDiff, reduceIte, Nat.reduceLeDiff, and_self, cond_true, cond_false, Nat.reduceAdd, Nat.reduceMul]
    refine NewQ.intro fun p3 h1 e1 n1 g1 k1 => ?_
    simp only [↓wP, wS, Nat.reduceEqDiff, reduceIte, Nat.reduceLeDiff, and_self, cond_true, cond_false, Nat.reduceAdd, Nat.reduceMul, hx3.2]
    refine NewQ.intro fun p5 h2 e2 n2 g2 k2 => ?_
    simp only [↓wP, wS, Nat.reduceEqDiff, reduceIte, Nat.reduceLeDiff, and_self, cond_true, cond_false, Nat.reduceAdd, Nat.reduceMul]
    refine NewQ.intro fun p6 h3 e3 n3 g3 k3 => ?_
    simp only [↓wP, wS, Nat.reduceEqDiff, reduceIte, Nat.reduceLeDiff, and_self, cond_true, cond_false, Nat.reduceAdd, Nat.reduceMul]
    have g1' := (k2.trans k3).keep (by omega) (fun x => x) g1
    have g2' := k3.keep (by omega) (fun x => x) g2
    have k03 := (k1.trans k2).trans k3
    have hnf : p6 ∉ h3.fz := by rw [k03.fz]; exact hf.not_mem (by omega)
    refine Code.seq (Code.seq (Code.ops ?_))
    simp only [s45_1, ↓wP, wS, Nat.reduceEqDiff, reduceIte, Nat.reduceLeDiff, and_self, cond_true, cond_false, Nat.reduceAdd, Nat.reduceMul, rdT_of g1']
    refine Code.cond (t := true) (by simp only [↓wP, wS, Nat.reduceEqDiff, reduceIte, Nat.reduceLeDiff, and_self, cond_true, cond_false, Nat.reduceAdd, Nat.reduceMul]; rfl) (fun _ => Code.seq (Code.seq (Code.ops ?_))) (fun h => by cases h)
    simp only [s45_2, ↓wP, wS, Nat.reduceEqDiff, reduceIte, Nat.reduceLeDiff, and_self, cond_true, cond_false, Nat.reduceAdd, Nat.reduceMul, rdT_of g1']
    have r1 := rdN_of (n := 3) (o := 0) g1' (by simp)
    have r2 := rdN_of (n := 3) (o := 0) g2' (by rw [hx3.1]; simp)
    rw [List.drop_zero, ← hx3.1, List.take_length, hx3.1] at r2
    by_cases hid : i = id
    · refine Code.cond (t := true) (by simp only [↓wP, wS, Nat.reduceEqDiff, reduceIte, Nat.reduceLeDiff, and_self, cond_true, cond_false, Nat.reduceAdd, Nat.reduceMul, hid, decide_true]) (fun _ => Code.seq (Code.ops ?_)) (fun h => by cases h)
      simp only [s45_3, ↓wP, wS, Nat.reduceEqDiff, reduceIte, Nat.reduceLeDiff, and_self, cond_true, cond_false, Nat.reduceAdd, Nat.reduceMul, r2]
      refine StoreQ.agg hx3.2 hx3.1 g3 (by simp) hnf fun h6 n6 g6 k6 => ?_
      simp only [↓wP, wS, Nat.reduceEqDiff, reduceIte, Nat.reduceLeDiff, and_self, cond_true, cond_false, Nat.reduceAdd, Nat.reduceMul]
      have hrd := rd_of (h := h6) (n := 3) (o := 0) g6 (by simp [hx3.1])
      have hcut : ((List.take 0 [i64 0, i64 0, Value.slice none 0 0] ++ nx ++ List.drop (0 + 3) [i64 0, i64 0, Value.slice none 0 0]).drop 0).take 3 = nx := by rw [← hx3.1]; simp
      rw [hcut] at hrd
      have k06 : K0 h h6 := k03.andThen k6 (fun x hx hl => by omega)
      refine Code.ret ⟨trivial, _, by simp only [resVs, resV, ↓wP, wS, Nat.reduceEqDiff, reduceIte, Nat.reduceLeDiff, and_self, cond_true, cond_false, Nat.reduceAdd, Nat.reduceMul, load_agg, hrd, Option.map_some]; rfl, ?_⟩
      refine hr nx h6 k06 ?_
      rw [putT, if_pos hid]
      exact hx.move (Nat.le_trans ho.next k06.next) (fun b hb _ => (k06.get b (Nat.lt_of_lt_of_le hb ho.next) (fun x => x)).trans (ho.get b hb)) (fun b _ hz => .inl hz)
    · refine Code.cond (t := false) (by simp only [↓wP, wS, Nat.reduceEqDiff, reduceIte, Nat.reduceLeDiff, and_self, cond_true, cond_false, Nat.reduceAdd, Nat.reduceMul, hid, decide_false]) (fun h => by cases h) (fun _ => Code.skip (Code.seq (Code.ops ?_)))
      simp only [s45_4, ↓wP, wS, Nat.reduceEqDiff, reduceIte, Nat.reduceLeDiff, and_self, cond_true, cond_false, Nat.reduceAdd, Nat.reduceMul, r1]
      refine StoreQ.agg (by rfl) rfl g3 (by simp) hnf fun h6 n6 g6 k6 => ?_
      simp only [↓wP, wS, Nat.reduceEqDiff, reduceIte, Nat.reduceLeDiff, and_self, cond_true, cond_false, Nat.reduceAdd, Nat.reduceMul]
      have hrd := rd_of (h := h6) (n := 3) (o := 0) g6 (by simp)
      refine Code.ret ⟨trivial, _, by simp only [resVs, resV, ↓wP, wS, Nat.reduceEqDiff, reduceIte, Nat.reduceLeDiff, and_self, cond_true, cond_false, Nat.reduceAdd, Nat.reduceMul, load_agg, hrd, Option.map_some]; rfl, ?_⟩
      have k06 : K0 h h6 := k03.andThen k6 (fun x hx hl => by omega)
      exact hr _ h6 k06 (by rw [putT, if_neg hid]; exact .win i)
  | grp side kb sz own ns ts hk hz hg hl hkids ih =>
    intro hgood hsmall h R ho hf hr
    rw [Good] at hgood
    rw [ids] at hsmall
    have hlen : ns.length ≤ 1000 := by have := idss_len ts hgood.2; omega
    refine Call.enter (TT.g _ _ (by decide)) TT.f45 (Nat.le_of_ble_eq_true rfl) ?_
    simp only [c45, envOf]
    refine Code.seq (Code.ops ?_)
    simp only [s45_0, ↓wP, wS, Nat.reduceEqDiff, reduceIte, Nat.reduceLeDiff, and_self, cond_true, cond_false, Nat.reduceAdd, Nat.reduceMul]
    refine NewQ.intro fun p3 h1 e1 n1 g1 k1 => ?_
    simp only [↓wP, wS, Nat.reduceEqDiff, reduceIte, Nat.reduceLeDiff, and_self, cond_true, cond_false, Nat.reduceAdd, Nat.reduceMul, hx3.2]
    refine NewQ.intro fun p5 h2 e2 n2 g2 k2 => ?_
    simp only [↓wP, wS, Nat.reduceEqDiff, reduceIte, Nat.reduceLeDiff, and_self, cond_true, cond_false, Nat.reduceAdd, Nat.reduceMul]
    refine NewQ.intro fun p6 h3 e3 n3 g3 k3 => ?_
    simp only [↓wP, wS, Nat.reduceEqDiff, reduceIte, Nat.reduceLeDiff, and_self, cond_true, cond_false, Nat.reduceAdd, Nat.reduceMul]
    have g1' := (k2.trans k3).keep (by omega) (fun x => x) g1
    have g2' := k3.keep (by omega) (fun x => x) g2
    have k03 := (k1.trans k2).trans k3
    have hkind : decide (kindV side = 0) = false := by cases side <;> rfl
    refine Code.seq (Code.seq (Code.ops ?_))
    simp only [s45_1, ↓wP, wS, Nat.reduceEqDiff, reduceIte, Nat.reduceLeDiff, and_self, cond_true, cond_false, Nat.reduceAdd, Nat.reduceMul, rdT_of g1', hkind]
    refine Code.cond (t := false) (by simp only [↓wP, wS, Nat.reduceEqDiff, reduceIte, Nat.reduceLeDiff, and_self, cond_true, cond_false, Nat.reduceAdd, Nat.reduceMul]) (fun hx => by cases hx) (fun _ => Code.skip (Code.seq (Code.ops ?_)))
    simp only [s45_5, ↓wP, wS, Nat.reduceEqDiff, reduceIte, Nat.reduceLeDiff, and_self, cond_true, cond_false, Nat.reduceAdd, Nat.reduceMul, rdT_of g1']
    refine NewQ.intro fun p7 h4 e4 n4 g4 k4 => ?_
    simp only [↓wP, wS, Nat.reduceEqDiff, reduceIte, Nat.reduceLeDiff, and_self, cond_true, cond_false, Nat.reduceAdd, Nat.reduceMul]
    have k04 := k03.trans k4
    refine StoreQ.agg (by rfl) rfl g4 (by simp) (by rw [k04.fz]; exact hf.not_mem (by omega)) fun h5 n5 g5 k5 => ?_
    simp only [↓wP, wS, Nat.reduceEqDiff, reduceIte, Nat.reduceLeDiff, and_self, cond_true, cond_false, Nat.reduceAdd, Nat.reduceMul] at g5 ⊢
    have k05 : K0 h h5 := k04.andThen k5 (fun x hx hl => by omega)
    have g1'' := k5.keep (by omega) (by omega) (k4.keep (by omega) (fun x => x) g1')
    have g2'' := k5.keep (by omega) (by omega) (k4.keep (by omega) (fun x => x) g2')
    have g3'' := k5.keep (by omega) (by omega) (k4.keep (by omega) (fun x => x) g3)
    refine Code.seq (Code.seq (Code.ops ?_))
    simp only [s45_6, ↓wP, wS, Nat.reduceEqDiff, reduceIte, Nat.reduceLeDiff, and_self, cond_true, cond_false, Nat.reduceAdd, Nat.reduceMul]
    refine Code.block (put_loop TT ho hf (fun b hb => Nat.lt_of_lt_of_le (hZ b hb) ho.next) (p3 := p3) (p5 := p5) (p6 := p6) (p7 := p7) (side := side) (id := id) (nx := nx) (x := x) (own := own) (sz := sz) (Nat.lt_of_lt_of_le hk ho.next) ((ho.get kb hk).trans hg) (NAt.threes hl hkids) hl hlen hx3.1 (fun i n t hn ht => ?_) ns.length 0 [] (.slice none 0 0) _ (by omega) rfl ?_ ?_ fun a s' I w => ?_)
    · have hg2 := goods_get ts hgood.2 i t ht
      exact ih i n t hn ht hg2.1 (by omega)
    · exact ⟨by simp only [↓wP, wS, Nat.reduceEqDiff, reduceIte, Nat.reduceLeDiff, and_self, cond_true, cond_false, Nat.reduceAdd, Nat.reduceMul], by simp only [↓wP, wS, Nat.reduceEqDiff, reduceIte, Nat.reduceLeDiff, and_self, cond_true, cond_false, Nat.reduceAdd, Nat.reduceMul], by simp only [↓wP, wS, Nat.reduceEqDiff, reduceIte, Nat.reduceLeDiff, and_self, cond_true, cond_false, Nat.reduceAdd, Nat.reduceMul], by simp only [↓wP, wS, Nat.reduceEqDiff, reduceIte, Nat.reduceLeDiff, and_self, cond_true, cond_false, Nat.reduceAdd, Nat.reduceMul], by simp only [↓wP, wS, Nat.reduceEqDiff, reduceIte, Nat.reduceLeDiff, and_self, cond_true, cond_false, Nat.reduceAdd, Nat.reduceMul], by simp only [↓wP, wS, Nat.reduceEqDiff, reduceIte, Nat.reduceLeDiff, and_self, cond_true, cond_false, Nat.reduceAdd, Nat.reduceMul]; rfl, by omega, by omega, by omega, by simp only; omega, g1'', g2'', g3'', g5⟩
    · exact ⟨k05, ⟨[], Acc.nil, EachN.nil⟩, fun b hb => by cases hb⟩
    simp only [if_true]
    obtain ⟨e, h8⟩ := s'
    obtain ⟨q1, q3, q5, q6, q7, q8, b3, b5, b6, b7, G3, G5, G6, G7⟩ := I
    obtain ⟨hk8, ⟨rs, ha, he⟩, hnk⟩ := w
    simp only at q1 q3 q5 q6 q7 q8 b3 b5 b6 b7 G3 G5 G6 G7 hk8 ha he
    rw [List.nil_append, List.drop_zero] at ha he
    refine Code.seq (Code.ops ?_)
    have r7 := rdN_of (n := 3) (o := 0) G7 (by simp)
    simp only [s45_11, ↓wP, wS, Nat.reduceEqDiff, reduceIte, Nat.reduceLeDiff, and_self, cond_true, cond_false, Nat.reduceAdd, Nat.reduceMul, q6, q7, r7]
    have hone : oneCell a = true := by obtain ⟨_, ⟨_, rfl⟩ | ⟨_, b, rfl, _⟩⟩ := ha <;> rfl
    refine StoreQ.agg (by simp only [List.all_cons, hone, List.all_nil]; rfl) rfl G6 (by simp) (by rw [hk8.fz]; exact hf.not_mem (by omega)) fun h9 n9 g9 k9 => ?_
    simp only [↓wP, wS, Nat.reduceEqDiff, reduceIte, Nat.reduceLeDiff, and_self, cond_true, cond_false, Nat.reduceAdd, Nat.reduceMul]
    have hrd := rd_of (h := h9) (n := 3) (o := 0) g9 (by simp)
    have k09 : K0 h h9 := hk8.andThen k9 (fun x hx hl => by omega)
    refine Code.ret ⟨trivial, _, by simp only [resVs, resV, ↓wP, wS, Nat.reduceEqDiff, reduceIte, Nat.reduceLeDiff, and_self, cond_true, cond_false, Nat.reduceAdd, Nat.reduceMul, q6, load_agg, hrd, Option.map_some]; rfl, ?_⟩
    refine hr _ h9 k09 ?_
    rw [putT]
    have hpl := putTs_len id x ts
    have hpos : 0 < ts.length := List.length_pos_iff.2 hgood.1
    have hrl := he.1
    obtain ⟨_, ⟨hx0, _⟩ | ⟨_, b, rfl, hb1, hb2, hb3⟩⟩ := ha
    · omega
    · rw [← hrl]
      rw [← hrl] at hnk he
      have hb6 : b ≠ p6 := fun hx => hnk b rfl (.inr (.inr (.inl hx)))
      refine .grp side b _ _ rs _ (by omega) (.inr hb1) (k9.keep hb2 hb6 hb3) hrl fun i n t hi ht => ?_
      exact (he.2 i n t hi ht).move (by omega) (fun c hc hz => k9.get c hc (fun hx => hz.1.2 (.inr (.inr (.inl hx))))) (fun c _ hz => hz.1.1)
end
end Go.Eng
