/- The document's plain: trees of one kind are one. -/
import Derived.Test.YtdafdampodbobaaSeatRefC
namespace Go.Eng
set_option linter.unusedSimpArgs false
set_option linter.unusedVariables false

def into (side : Bool) : Tr → List Tr
  | .win i => if 0 < i then [.win i] else []
  | .grp s ks => if s = side then ks else [.grp s ks]
def packT (side : Bool) : List Tr → Tr
  | [] => .win 0
  | [x] => x
  | x :: y :: l => .grp side (x :: y :: l)
mutual
def plainT : Tr → Tr
  | .win i => .win i
  | .grp side ks => packT side (plains side ks)
def plains (side : Bool) : List Tr → List Tr
  | [] => []
  | t :: r => into side (plainT t) ++ plains side r
end

/-- Nodes in a row. -/
def EachN (Z : Nat → Prop) (h : Hp) (ns : List (List Value)) (ts : List Tr) : Prop :=
  ns.length = ts.length ∧ ∀ (i : Nat) (n : List Value) (t : Tr), ns[i]? = some n → ts[i]? = some t → NAt Z h n t

theorem EachN.move {Z Z' : Nat → Prop} {h h' : Hp} (hn : h.next ≤ h'.next) (hg : ∀ b, b < h.next → Z b → h'.t.get b = h.t.get b) (hz : ∀ b, b < h.next → Z b → Z' b) {ns : List (List Value)} {ts : List Tr} (e : EachN Z h ns ts) : EachN Z' h' ns ts :=
  ⟨e.1, fun i v t hv ht => (e.2 i v t hv ht).move hn hg hz⟩
theorem EachN.nil {Z : Nat → Prop} {h : Hp} : EachN Z h [] [] := ⟨rfl, fun i v t hv => by simp at hv⟩
theorem EachN.append {Z : Nat → Prop} {h : Hp} {a b : List (List Value)} {x y : List Tr} (e : EachN Z h a x) (f : EachN Z h b y) : EachN Z h (a ++ b) (x ++ y) := by
  refine ⟨by simp [e.1, f.1], fun i v t hv ht => ?_⟩
  by_cases hi : i < a.length
  · rw [List.getElem?_append_left hi] at hv
    rw [List.getElem?_append_left (e.1 ▸ hi)] at ht
    exact e.2 i v t hv ht
  · rw [List.getElem?_append_right (by omega)] at hv
    rw [List.getElem?_append_right (by have := e.1; omega), ← e.1] at ht
    exact f.2 _ v t hv ht
theorem EachN.single {Z : Nat → Prop} {h : Hp} {v : List Value} {t : Tr} (e : NAt Z h v t) : EachN Z h [v] [t] :=
  ⟨rfl, fun i v' t' hv ht => by
    cases i with
    | zero => simp at hv ht; subst hv; subst ht; exact e
    | succ i => simp at hv⟩
theorem EachN.three {Z : Nat → Prop} {h : Hp} {ns : List (List Value)} {ts : List Tr} (e : EachN Z h ns ts) : ns.flatten.length = ns.length * 3 ∧ ns.flatten.all oneCell = true := by
  obtain ⟨hl, he⟩ := e
  induction ns generalizing ts with
  | nil => exact ⟨rfl, rfl⟩
  | cons n ns ih =>
    cases ts with
    | nil => simp at hl
    | cons t ts =>
      have h0 := (he 0 n t rfl rfl).three
      have h1 := ih (ts := ts) (by simpa using hl) (fun i m u hm hu => he (i + 1) m u (by simpa using hm) (by simpa using hu))
      rw [List.flatten_cons, List.length_append, List.all_append, h1.1, h1.2, h0.1, h0.2]
      exact ⟨by simp; omega, rfl⟩

/-- A row of nodes that grows. -/
structure NB (Z : Nat → Prop) (h : Hp) (keep : Nat → Prop) (done : List Tr) (a : Value) (h2 : Hp) : Prop where
  heap : K0 h h2
  row : ∃ ns, Acc h2 h.next 3 done.length ns.flatten a ∧ EachN (fun b => (OrNew Z h.next b ∧ ¬ keep b) ∧ blkOf a ≠ some b) h2 ns done
  nk : ∀ b, blkOf a = some b → ¬ keep b

theorem NB.later {Z : Nat → Prop} {h h2 h3 : Hp} {keep : Nat → Prop} {done : List Tr} {a : Value} (w : NB Z h keep done a h2) (k : K0 h2 h3) : NB Z h keep done a h3 := by
  obtain ⟨hk, ⟨ns, ha, he⟩, hn⟩ := w
  exact ⟨hk.trans k, ⟨ns, ha.keep k.next (fun b hb => k.get b (ha.blk b hb).2 (fun x => x)), he.move k.next (fun b hb _ => k.get b hb (fun x => x)) (fun _ _ hz => hz)⟩, hn⟩

section
/-- More nodes come to a row. -/
theorem NB.append {Z : Nat → Prop} {h h2 : Hp} {keep : Nat → Prop} {done more : List Tr} {a x : Value} {xs : List (List Value)} {Q : Value → Hp → Prop} (w : NB Z h keep done a h2) (hf : FzLt h) (hfz : ∀ b, b ∈ h2.fz → b < h.next ∨ blkOf a ≠ some b) (hkeep : ∀ b, keep b → b < h2.next) (hd : done.length ≤ 100000) (hm : more.length ≤ 100000)
    (hx : ∃ base cf, x = .slice base more.length cf) (hxs : sliceCells h2 3 x = some xs.flatten) (he : EachN (fun b => (OrNew Z h.next b ∧ ¬ keep b) ∧ blkOf a ≠ some b) h2 xs more)
    (hq : ∀ a' h3, NB Z h keep (done ++ more) a' h3 → Kp (fun b => blkOf a = some b) h2 h3 → Q a' h3) : AppendQ h2 3 40 (some a) (some x) Q := by
  obtain ⟨hk, ⟨ns, ha, hn⟩, hnk⟩ := w
  have e3 := he.three
  refine AppendQ.acc (n0 := h.next) ha hk.next (by omega) (by omega) (by omega) hx hxs (by rw [e3.1, he.1]) e3.2 (fun b hb hm' => ?_) fun a' h3 ha' k3 hb' => ?_
  · rcases hfz b hm' with h1 | h1
    · have := (ha.blk b hb).1
      omega
    · exact h1 hb
  · have hzz : ∀ b, b < h2.next → ((OrNew Z h.next b ∧ ¬ keep b) ∧ blkOf a ≠ some b) → ((OrNew Z h.next b ∧ ¬ keep b) ∧ blkOf a' ≠ some b) := fun b hb hz => ⟨hz.1, fun hx => by
      rcases hb' b hx with h1 | h1
      · exact hz.2 h1
      · omega⟩
    refine hq a' h3 ⟨hk.andThen k3 (fun x hx hl => by have := (ha.blk x hx).1; omega), ⟨ns ++ xs, ?_, ?_⟩, fun b hb hkb => ?_⟩ k3
    · rw [List.flatten_append, List.length_append]
      exact ha'
    · exact (hn.append he).move k3.next (fun b hb hz => k3.get b hb hz.2) hzz
    · rcases hb' b hb with h1 | h1
      · exact hnk b h1 hkb
      · have := hkeep b hkb
        omega

variable {F : FuncId → Option SFunc} {G : FuncId → List Value → Option Value}

def Plains (F : FuncId → Option SFunc) (G : FuncId → List Value → Option Value) (Z : Nat → Prop) (h0 : Hp) (n : List Value) (t : Tr) : Prop :=
  ∀ (h : Hp) (R : Value → Hp → Prop), Old h0 h → FzLt h → (∀ n' h', K0 h h' → NAt (OrNew Z h.next) h' n' (plainT t) → R (.agg n'.toArray) h') → Call F G 44 [.agg n.toArray] h R

structure PI (h : Hp) (p1 p2 kb k : Nat) (side : Bool) (a : Value) (i : Nat) (s : St) : Prop where
  e1 : s.e.get 1 = some (pt p1 0)
  e2 : s.e.get 2 = some (pt p2 0)
  e3 : s.e.get 3 = some a
  e4 : s.e.get 4 = some (i64 i)
  b1 : h.next ≤ p1 ∧ p1 < s.h.next
  b2 : h.next ≤ p2 ∧ p2 < s.h.next
  g1 : s.h.t.get p1 = some (.cells [i64 (kindV side), i64 0, sl kb 0 k 0] 0 true)
  g2 : s.h.t.get p2 = some (.cells [i64 0, i64 0, .slice none 0 0] 0 true)

theorem kind_pos (side : Bool) : kindV side ≠ 0 := by cases side <;> decide
theorem kind_inj (s side : Bool) : decide (kindV s = kindV side) = (s == side) := by cases s <;> cases side <;> rfl

theorem plain_round (TT : Tab F G) {Z : Nat → Prop} {h0 h : Hp} (ho : Old h0 h) (hf : FzLt h) (hZ : ∀ b, Z b → b < h.next) {p1 p2 kb sz i : Nat} {own side : Bool} {ns : List (List Value)} {n : List Value} {t : Tr} {done : List Tr} {a : Value} (hkb : kb < h.next) (hkg : h.t.get kb = some (.cells ns.flatten sz own)) (h3 : ∀ n ∈ ns, n.length = 3) (hlen : ns.length ≤ 1000)
    (hn : ns[i]? = some n) (hp : Plains F G Z h0 n t) (hd : done.length ≤ 100000) (hm : (into side (plainT t)).length ≤ 100000) {s : St} (I : PI h p1 p2 kb ns.length side a i s) (w : NB Z h (fun b => b = p1 ∨ b = p2) done a s.h) {Q : Flow → St → Prop}
    (hq : ∀ a' s', PI h p1 p2 kb ns.length side a' (i + 1) s' → NB Z h (fun b => b = p1 ∨ b = p2) (done ++ into side (plainT t)) a' s'.h → Q .next s') : Code F G b44_12 s Q := by
  obtain ⟨e, h2⟩ := s
  obtain ⟨e1, e2, e3, e4, b1, b2, g1, g2⟩ := I
  simp only at e1 e2 e3 e4 b1 b2 g1 g2 w
  have hil : i < ns.length := (List.getElem?_eq_some_iff.1 hn).1
  have hlt : (i : Int) < (ns.length : Int) := by omega
  have h0i : (0 : Int) ≤ (i : Int) := by omega
  have hw2 : w64 ((i : Int) + 1) = i + 1 := w64_id (by omega) (by omega)
  have hkg2 := w.heap.keep hkb (fun x => x) hkg
  refine Code.seq (Code.seq (Code.ops ?_))
  simp only [s44_5, ↓wP, wS, Nat.reduceEqDiff, reduceIte, Nat.reduceLeDiff, and_self, cond_true, cond_false, Nat.reduceAdd, Nat.reduceMul, e1, e4, rdT_of g1, hlt, decide_true]
  refine Code.cond (t := true) (by simp only [↓wP, wS, Nat.reduceEqDiff, reduceIte, Nat.reduceLeDiff, and_self, cond_true, cond_false, Nat.reduceAdd, Nat.reduceMul]) (fun _ => Code.skip ?_) (fun h => by cases h)
  refine Code.seq (Code.block (Code.seq (Code.ops ?_)))
  simp only [s44_6, ↓wP, wS, Nat.reduceEqDiff, reduceIte, Nat.reduceLeDiff, and_self, cond_true, cond_false, Nat.reduceAdd, Nat.reduceMul, e1, e4, rdT_of g1, hlt, h0i, and_self, if_true, Int.toNat_natCast, rdN_n hkg2 h3 hn]
  refine hp h2 _ (ho.trans w.heap.old) (w.heap.fzLt hf) fun n' h4 k4 hn' => ?_
  simp only [↓wP, wS, Nat.reduceEqDiff, reduceIte, Nat.reduceLeDiff, and_self, cond_true, cond_false, Nat.reduceAdd, Nat.reduceMul]
  have hf4 := k4.fzLt (w.heap.fzLt hf)
  have n3 := hn'.three
  refine NewQ.intro fun p5 h5 e5 n5 g5 k5 => ?_
  simp only [↓wP, wS, Nat.reduceEqDiff, reduceIte, Nat.reduceLeDiff, and_self, cond_true, cond_false, Nat.reduceAdd, Nat.reduceMul]
  refine StoreQ.agg n3.2 n3.1 g5 (by simp) (by rw [k5.fz]; exact hf4.not_mem (by omega)) fun h6 n6 g6 k6 => ?_
  have g6' : h6.t.get p5 = some (.cells n' 0 true) := by rw [g6]; simp
  clear g6
  simp only [↓wP, wS, Nat.reduceEqDiff, reduceIte, Nat.reduceLeDiff, and_self, cond_true, cond_false, Nat.reduceAdd, Nat.reduceMul]
  have k26 : K0 h2 h6 := (k4.trans k5).andThen k6 (fun x hx hl => by have := k4.next; omega)
  have w6 := w.later k26
  have G1 := k26.keep b1.2 (fun x => x) g1
  have G2 := k26.keep b2.2 (fun x => x) g2
  have nx := k26.next
  have hwn := w.heap.next
  have hn6 : NAt (fun b => (OrNew Z h.next b ∧ ¬ (b = p1 ∨ b = p2)) ∧ blkOf a ≠ some b) h6 n' (plainT t) := by
    refine hn'.move (by omega) (fun b hb _ => ?_) (fun b hb hz => ?_)
    · rw [k6.get b (by omega) (by omega), k5.get b hb (fun x => x)]
    · obtain ⟨_, ⟨dns, ha, _⟩, _⟩ := w
      rcases hz with hz | hz
      · have := hZ b hz
        exact ⟨⟨.inl hz, by omega⟩, fun hx => by have := (ha.blk b hx).1; omega⟩
      · exact ⟨⟨.inr (by omega), by omega⟩, fun hx => by have := (ha.blk b hx).2; omega⟩
  have fin : ∀ (a' : Value) (e8 : Env) (h8 : Hp), e8.get 1 = some (pt p1 0) → e8.get 2 = some (pt p2 0) → e8.get 3 = some a' → e8.get 4 = some (i64 i) → NB Z h (fun b => b = p1 ∨ b = p2) (done ++ into side (plainT t)) a' h8 → h6.next ≤ h8.next → h8.t.get p1 = h6.t.get p1 → h8.t.get p2 = h6.t.get p2 →
      Code F G (.ops s44_11) ⟨e8, h8⟩ Q := by
    intro a' e8 h8 q1 q2 q3 q4 w8 hnx hg1 hg2
    refine Code.ops ?_
    simp only [s44_11, ↓wP, wS, Nat.reduceEqDiff, reduceIte, Nat.reduceLeDiff, and_self, cond_true, cond_false, Nat.reduceAdd, Nat.reduceMul, q4, hw2]
    exact hq a' _ ⟨by simp only [↓wP, wS, Nat.reduceEqDiff, reduceIte, Nat.reduceLeDiff, and_self, cond_true, cond_false, Nat.reduceAdd, Nat.reduceMul, q1], by simp only [↓wP, wS, Nat.reduceEqDiff, reduceIte, Nat.reduceLeDiff, and_self, cond_true, cond_false, Nat.reduceAdd, Nat.reduceMul, q2], by simp only [↓wP, wS, Nat.reduceEqDiff, reduceIte, Nat.reduceLeDiff, and_self, cond_true, cond_false, Nat.reduceAdd, Nat.reduceMul, q3], by simp only [↓wP, wS, Nat.reduceEqDiff, reduceIte, Nat.reduceLeDiff, and_self, cond_true, cond_false, Nat.reduceAdd, Nat.reduceMul]; rfl, ⟨b1.1, by simp only; omega⟩, ⟨b2.1, by simp only; omega⟩, hg1.trans G1, hg2.trans G2⟩ w8
  refine Code.seq (Code.ops ?_)
  generalize plainT t = u at hn6 hn' fin hm
  have one : ∀ (e8 : Env), into side u = [u] → e8.get 1 = some (pt p1 0) → e8.get 2 = some (pt p2 0) → e8.get 3 = some a → e8.get 4 = some (i64 i) → e8.get 5 = some (pt p5 0) → Code F G (.ops s44_10) ⟨e8, h6⟩ fun fl s' => fl = .next ∧ Code F G (.ops s44_11) s' Q := by
    intro e8 hin q1 q2 q3 q4 q5
    rw [hin] at fin hm
    refine Code.ops ?_
    have r5 := rdN_of (n := 3) (o := 0) g6' (by omega)
    have r5' : rdN h6.t p5 0 3 = some n' := by rw [r5, List.drop_zero, ← n3.1, List.take_length]
    simp only [s44_10, ↓wP, wS, Nat.reduceEqDiff, reduceIte, Nat.reduceLeDiff, and_self, cond_true, cond_false, Nat.reduceAdd, Nat.reduceMul, q3, q5, r5', n3.1]
    refine NewQ.intro fun pm h7 e7 n7 g7 k7 => ?_
    rw [List.append_nil] at g7
    simp only [↓wP, wS, Nat.reduceEqDiff, reduceIte, Nat.reduceLeDiff, and_self, cond_true, cond_false, Nat.reduceAdd, Nat.reduceMul, q3]
    refine NB.append (more := [u]) (xs := [n']) (w6.later k7) hf (fun b hb => .inl (hf b (by rw [k7.fz, k26.fz, w.heap.fz] at hb; exact hb))) (fun b hb => by rcases hb with rfl | rfl <;> omega) hd (by simp) ⟨_, _, rfl⟩ (by rw [show ([n'].flatten) = n' by simp]; exact cells_whole g7 (by rw [n3.1])) (EachN.single (hn6.move k7.next (fun b hb _ => k7.get b hb (fun x => x)) (fun _ _ hz => hz))) fun a' h8 w8 k8 => ?_
    simp only [↓wP, wS, Nat.reduceEqDiff, reduceIte, Nat.reduceLeDiff, and_self, cond_true, cond_false, Nat.reduceAdd, Nat.reduceMul]
    refine ⟨trivial, fin a' _ _ (by simp only [↓wP, wS, Nat.reduceEqDiff, reduceIte, Nat.reduceLeDiff, and_self, cond_true, cond_false, Nat.reduceAdd, Nat.reduceMul, q1]) (by simp only [↓wP, wS, Nat.reduceEqDiff, reduceIte, Nat.reduceLeDiff, and_self, cond_true, cond_false, Nat.reduceAdd, Nat.reduceMul, q2]) (by simp only [↓wP, wS, Nat.reduceEqDiff, reduceIte, Nat.reduceLeDiff, and_self, cond_true, cond_false, Nat.reduceAdd, Nat.reduceMul]) (by simp only [↓wP, wS, Nat.reduceEqDiff, reduceIte, Nat.reduceLeDiff, and_self, cond_true, cond_false, Nat.reduceAdd, Nat.reduceMul, q4]) w8 (by have := k8.next; omega) ?_ ?_⟩
    · rw [k8.get p1 (by omega) (fun hx => w6.nk p1 hx (.inl rfl)), k7.get p1 (by omega) (fun x => x)]
    · rw [k8.get p2 (by omega) (fun hx => w6.nk p2 hx (.inr rfl)), k7.get p2 (by omega) (fun x => x)]
  have next : ∀ {c : SCode} {s8 : St}, (Code F G c s8 fun fl s' => fl = .next ∧ Code F G (.ops s44_11) s' Q) → Code F G c s8 fun fl s' => match fl with | .exit i => if i = 1 then Code F G (.ops s44_11) s' Q else Q (.exit i) s' | fl => match fl with | .next => Code F G (.ops s44_11) s' Q | fl => Q fl s' :=
    fun hc => hc.mono fun fl s' ⟨hfl, hs'⟩ => by subst hfl; exact hs'
  cases hn6 with
  | win id =>
    have hk0 : decide ((0 : Int) = kindV side) = false := by cases side <;> rfl
    simp only [s44_7, ↓wP, wS, Nat.reduceEqDiff, reduceIte, Nat.reduceLeDiff, and_self, cond_true, cond_false, Nat.reduceAdd, Nat.reduceMul, e1, rdT_of g6', rdT_of G1, hk0]
    refine Code.cond (t := false) (by simp only [↓wP, wS, Nat.reduceEqDiff, reduceIte, Nat.reduceLeDiff, and_self, cond_true, cond_false, Nat.reduceAdd, Nat.reduceMul]) (fun h => by cases h) (fun _ => Code.seq (Code.ops ?_))
    have h00 : decide ((0 : Int) ≠ 0) = false := rfl
    simp only [s44_9, ↓wP, wS, Nat.reduceEqDiff, reduceIte, Nat.reduceLeDiff, and_self, cond_true, cond_false, Nat.reduceAdd, Nat.reduceMul, rdT_of g6', h00]
    by_cases hid : 0 < id
    · have hin : into side (.win id) = [.win id] := by simp only [into, hid, if_true]
      refine next (Code.cond (t := true) (by simp only [↓wP, wS, Nat.reduceEqDiff, reduceIte, Nat.reduceLeDiff, and_self, cond_true, cond_false, Nat.reduceAdd, Nat.reduceMul, hid, decide_true]) (fun _ => ?_) (fun h => by cases h))
      exact one _ hin (by simp only [↓wP, wS, Nat.reduceEqDiff, reduceIte, Nat.reduceLeDiff, and_self, cond_true, cond_false, Nat.reduceAdd, Nat.reduceMul, e1]) (by simp only [↓wP, wS, Nat.reduceEqDiff, reduceIte, Nat.reduceLeDiff, and_self, cond_true, cond_false, Nat.reduceAdd, Nat.reduceMul, e2]) (by simp only [↓wP, wS, Nat.reduceEqDiff, reduceIte, Nat.reduceLeDiff, and_self, cond_true, cond_false, Nat.reduceAdd, Nat.reduceMul, e3]) (by simp only [↓wP, wS, Nat.reduceEqDiff, reduceIte, Nat.reduceLeDiff, and_self, cond_true, cond_false, Nat.reduceAdd, Nat.reduceMul, e4]) (by simp only [↓wP, wS, Nat.reduceEqDiff, reduceIte, Nat.reduceLeDiff, and_self, cond_true, cond_false, Nat.reduceAdd, Nat.reduceMul])
    · have hin : into side (.win id) = [] := by simp only [into, hid, if_false]
      rw [hin, List.append_nil] at fin
      refine next (Code.cond (t := false) (by simp only [↓wP, wS, Nat.reduceEqDiff, reduceIte, Nat.reduceLeDiff, and_self, cond_true, cond_false, Nat.reduceAdd, Nat.reduceMul, hid, decide_false]) (fun h => by cases h) (fun _ => Code.skip ?_))
      exact ⟨rfl, fin a _ _ (by simp only [↓wP, wS, Nat.reduceEqDiff, reduceIte, Nat.reduceLeDiff, and_self, cond_true, cond_false, Nat.reduceAdd, Nat.reduceMul, e1]) (by simp only [↓wP, wS, Nat.reduceEqDiff, reduceIte, Nat.reduceLeDiff, and_self, cond_true, cond_false, Nat.reduceAdd, Nat.reduceMul, e2]) (by simp only [↓wP, wS, Nat.reduceEqDiff, reduceIte, Nat.reduceLeDiff, and_self, cond_true, cond_false, Nat.reduceAdd, Nat.reduceMul, e3]) (by simp only [↓wP, wS, Nat.reduceEqDiff, reduceIte, Nat.reduceLeDiff, and_self, cond_true, cond_false, Nat.reduceAdd, Nat.reduceMul, e4]) w6 (Nat.le_refl _) rfl rfl⟩
  | grp s kb' sz' own' ns' ts' hk' hz' hg' hl' hkids' =>
    simp only [s44_7, ↓wP, wS, Nat.reduceEqDiff, reduceIte, Nat.reduceLeDiff, and_self, cond_true, cond_false, Nat.reduceAdd, Nat.reduceMul, e1, rdT_of g6', rdT_of G1, kind_inj]
    refine Code.cond (t := s == side) (by simp only [↓wP, wS, Nat.reduceEqDiff, reduceIte, Nat.reduceLeDiff, and_self, cond_true, cond_false, Nat.reduceAdd, Nat.reduceMul]) (fun hs => ?_) (fun hs => ?_)
    · have hss : s = side := by simpa using hs
      subst hss
      have hin : into s (.grp s ts') = ts' := by simp only [into, if_true]
      rw [hin] at fin hm
      refine next (Code.ops ?_)
      simp only [s44_8, ↓wP, wS, Nat.reduceEqDiff, reduceIte, Nat.reduceLeDiff, and_self, cond_true, cond_false, Nat.reduceAdd, Nat.reduceMul, e3, rdT_of g6']
      have e3' := EachN.three (Z := fun b => (OrNew Z h.next b ∧ ¬ (b = p1 ∨ b = p2)) ∧ blkOf a ≠ some b) ⟨hl', hkids'⟩
      refine NB.append (more := ts') (xs := ns') w6 hf (fun b hb => .inl (hf b (by rw [k26.fz, w.heap.fz] at hb; exact hb))) (fun b hb => by rcases hb with rfl | rfl <;> omega) hd hm ⟨_, _, by rw [hl']⟩ (cells_whole hg' e3'.1) ⟨hl', hkids'⟩ fun a' h8 w8 k8 => ?_
      simp only [↓wP, wS, Nat.reduceEqDiff, reduceIte, Nat.reduceLeDiff, and_self, cond_true, cond_false, Nat.reduceAdd, Nat.reduceMul]
      refine ⟨trivial, fin a' _ _ (by simp only [↓wP, wS, Nat.reduceEqDiff, reduceIte, Nat.reduceLeDiff, and_self, cond_true, cond_false, Nat.reduceAdd, Nat.reduceMul, e1]) (by simp only [↓wP, wS, Nat.reduceEqDiff, reduceIte, Nat.reduceLeDiff, and_self, cond_true, cond_false, Nat.reduceAdd, Nat.reduceMul, e2]) (by simp only [↓wP, wS, Nat.reduceEqDiff, reduceIte, Nat.reduceLeDiff, and_self, cond_true, cond_false, Nat.reduceAdd, Nat.reduceMul]) (by simp only [↓wP, wS, Nat.reduceEqDiff, reduceIte, Nat.reduceLeDiff, and_self, cond_true, cond_false, Nat.reduceAdd, Nat.reduceMul, e4]) w8 k8.next ?_ ?_⟩
      · rw [k8.get p1 (by omega) (fun hx => w6.nk p1 hx (.inl rfl))]
      · rw [k8.get p2 (by omega) (fun hx => w6.nk p2 hx (.inr rfl))]
    · have hss : s ≠ side := by simpa using hs
      have hin : into side (.grp s ts') = [.grp s ts'] := by simp only [into, hss, if_false]
      refine Code.seq (Code.ops ?_)
      have h00 : decide (kindV s ≠ 0) = true := by cases s <;> rfl
      simp only [s44_9, ↓wP, wS, Nat.reduceEqDiff, reduceIte, Nat.reduceLeDiff, and_self, cond_true, cond_false, Nat.reduceAdd, Nat.reduceMul, rdT_of g6', h00]
      refine next (Code.cond (t := true) (by simp only [↓wP, wS, Nat.reduceEqDiff, reduceIte, Nat.reduceLeDiff, and_self, cond_true, cond_false, Nat.reduceAdd, Nat.reduceMul]) (fun _ => ?_) (fun h => by cases h))
      exact one _ hin (by simp only [↓wP, wS, Nat.reduceEqDiff, reduceIte, Nat.reduceLeDiff, and_self, cond_true, cond_false, Nat.reduceAdd, Nat.reduceMul, e1]) (by simp only [↓wP, wS, Nat.reduceEqDiff, reduceIte, Nat.reduceLeDiff, and_self, cond_true, cond_false, Nat.reduceAdd, Nat.reduceMul, e2]) (by simp only [↓wP, wS, Nat.reduceEqDiff, reduceIte, Nat.reduceLeDiff, and_self, cond_true, cond_false, Nat.reduceAdd, Nat.reduceMul, e3]) (by simp only [↓wP, wS, Nat.reduceEqDiff, reduceIte, Nat.reduceLeDiff, and_self, cond_true, cond_false, Nat.reduceAdd, Nat.reduceMul, e4]) (by simp only [↓wP, wS, Nat.reduceEqDiff, reduceIte, Nat.reduceLeDiff, and_self, cond_true, cond_false, Nat.reduceAdd, Nat.reduceMul])

theorem into_len (side : Bool) (t : Tr) (hg : Good t) : (into side t).length ≤ (ids t).length := by
  cases t with
  | win i => simp only [into, ids]; split <;> simp
  | grp s ks =>
    simp only [into]
    split
    · rw [Good] at hg
      rw [ids]
      exact idss_len ks hg.2
    · simp only [List.length_singleton]
      exact ids_pos _ hg
end
end Go.Eng
