/- The document's places. -/
import Derived.Test.YtdafdampodbobaaSeatRefA
namespace Go.Eng
set_option linter.unusedSimpArgs false
set_option linter.unusedVariables false

def RefLays (F : FuncId → Option SFunc) (G : FuncId → List Value → Option Value) (h0 : Hp) (n : List Value) (t : Tr) : Prop :=
  ∀ (h : Hp) (top left rows cols : Int) (R : Value → Hp → Prop), Old h0 h → FzLt h → InR top → InR left → InR rows → InR cols → (∀ r h', K0 h h' → WAt h' h.next r (plc t top left rows cols) → R r h') →
    Call F G 48 [.agg n.toArray, i64 top, i64 left, i64 rows, i64 cols] h R

theorem kid_in (side : Bool) (k i : Nat) {top left rows cols : Int} (h1 : InR top) (h2 : InR left) (h3 : InR rows) (h4 : InR cols) :
    InR (kidTop side k i top rows) ∧ InR (kidLeft side k i left cols) ∧ InR (kidRows side k i rows) ∧ InR (kidCols side k i cols) := by
  unfold kidTop kidLeft kidRows kidCols
  cases side
  · exact ⟨w64_range _, h2, w64_range _, h4⟩
  · exact ⟨h1, w64_range _, h3, w64_range _⟩

def roomOfG (side : Bool) (k : Nat) (rows cols : Int) : Int := if side then w64 (cols - (k - 1)) else rows

section
variable {F : FuncId → Option SFunc} {G : FuncId → List Value → Option Value}

structure RI (h : Hp) (p5 kb k : Nat) (side : Bool) (top left rows cols : Int) (i : Nat) (done : List Wn) (s : St) : Prop where
  e1 : s.e.get 1 = some (i64 (kidTop side k i top rows))
  e2 : s.e.get 2 = some (i64 (kidLeft side k i left cols))
  e3 : s.e.get 3 = some (i64 rows)
  e4 : s.e.get 4 = some (i64 cols)
  e5 : s.e.get 5 = some (pt p5 0)
  e12 : s.e.get 12 = some (i64 k)
  e13 : s.e.get 13 = some (i64 (roomOfG side k rows cols))
  e14 : s.e.get 14 = some (i64 i)
  e11 : ∃ acc, s.e.get 11 = some acc ∧ Acc s.h h.next 5 done.length (wcells done) acc ∧ blkOf acc ≠ some p5
  heap : K0 h s.h
  lo : h.next ≤ p5
  hi : p5 < s.h.next
  g5 : s.h.t.get p5 = some (.cells [i64 (kindV side), i64 0, sl kb 0 k 0] 0 true)

/-- A node's cells in its row. -/
theorem flat3_at (ns : List (List Value)) (h3 : ∀ n ∈ ns, n.length = 3) (i : Nat) (n : List Value) (hn : ns[i]? = some n) : (ns.flatten.drop (i * 3)).take 3 = n ∧ i * 3 + 3 ≤ ns.flatten.length := by
  induction ns generalizing i with
  | nil => simp at hn
  | cons x ns ih =>
    have hx := h3 x (by simp)
    cases i with
    | zero =>
      simp at hn
      subst hn
      simp [hx]
    | succ i =>
      have := ih (fun n hn => h3 n (by simp [hn])) i (by simpa using hn)
      rw [List.flatten_cons, show (i + 1) * 3 = x.length + i * 3 by omega, List.drop_append, List.drop_of_length_le (by omega), List.nil_append, Nat.add_sub_cancel_left, List.length_append]
      exact ⟨this.1, by omega⟩

theorem rdN_n {t : T AObj} {b : Nat} {ns : List (List Value)} {sz : Nat} {own : Bool} {i : Nat} {n : List Value} (hb : t.get b = some (.cells ns.flatten sz own)) (h3 : ∀ n ∈ ns, n.length = 3) (hn : ns[i]? = some n) : rdN t b (i * 3) 3 = some n := by
  obtain ⟨q1, q2⟩ := flat3_at ns h3 i n hn
  rw [rdN_of hb q2, q1]

theorem ref_exit {h : Hp} {p5 kb k : Nat} {side : Bool} {top left rows cols : Int} {done : List Wn} {s : St} (I : RI h p5 kb k side top left rows cols k done s) {Q : Flow → St → Prop} (hq : ∀ s', RI h p5 kb k side top left rows cols k done s' → Q (.exit 0) s') : Code F G b48_19 s Q := by
  obtain ⟨e, h2⟩ := s
  obtain ⟨e1, e2, e3, e4, e5, e12, e13, e14, e11, hk, lo, hi, g5⟩ := I
  simp only at e1 e2 e3 e4 e5 e12 e13 e14 e11 hk hi g5
  refine Code.seq (Code.seq (Code.ops ?_))
  simp only [s48_9, ↓wP, wS, Nat.reduceEqDiff, reduceIte, Nat.reduceLeDiff, and_self, cond_true, cond_false, Nat.reduceAdd, Nat.reduceMul, e12, e14, Int.lt_irrefl, decide_false]
  refine Code.cond (t := false) (by simp only [↓wP, wS, Nat.reduceEqDiff, reduceIte, Nat.reduceLeDiff, and_self, cond_true, cond_false, Nat.reduceAdd, Nat.reduceMul]) (fun h => by cases h) (fun _ => Code.exit ?_)
  refine hq _ ⟨?_, ?_, ?_, ?_, ?_, ?_, ?_, ?_, ?_, hk, lo, hi, g5⟩ <;> simp only [↓wP, wS, Nat.reduceEqDiff, reduceIte, Nat.reduceLeDiff, and_self, cond_true, cond_false, Nat.reduceAdd, Nat.reduceMul, e1, e2, e3, e4, e5, e12, e13, e14]
  exact e11

theorem ref_round (TT : Tab F G) {h0 h : Hp} (ho : Old h0 h) (hf : FzLt h) {p5 kb sz : Nat} {own side : Bool} {ns : List (List Value)} {top left rows cols : Int} (hkb : kb < h.next) (hkg : h.t.get kb = some (.cells ns.flatten sz own)) (hlen : ns.length ≤ 1000) (h3 : ∀ n ∈ ns, n.length = 3)
    (r1 : InR top) (r2 : InR left) (r3 : InR rows) (r4 : InR cols) {i : Nat} {n : List Value} {t : Tr} (hn : ns[i]? = some n) (hlay : RefLays F G h0 n t) {done : List Wn} (hd : (done.length + (ids t).length) * 40 ≤ 140737488355328) {s : St} (I : RI h p5 kb ns.length side top left rows cols i done s) {Q : Flow → St → Prop}
    (hq : ∀ s', RI h p5 kb ns.length side top left rows cols (i + 1) (done ++ plc t (kidTop side ns.length i top rows) (kidLeft side ns.length i left cols) (kidRows side ns.length i rows) (kidCols side ns.length i cols)) s' → Q .next s') :
    Code F G b48_19 s Q := by
  obtain ⟨e, h2⟩ := s
  obtain ⟨e1, e2, e3, e4, e5, e12, e13, e14, ⟨acc, e11, hacc, hne⟩, hk, lo, hi, g5⟩ := I
  simp only at e1 e2 e3 e4 e5 e12 e13 e14 e11 hk hi g5 hacc
  have hil : i < ns.length := (List.getElem?_eq_some_iff.1 hn).1
  have hlt : (i : Int) < (ns.length : Int) := by omega
  have h0i : (0 : Int) ≤ (i : Int) := by omega
  have hk0 : (ns.length : Int) ≠ 0 := by omega
  have hw2 : w64 ((i : Int) + 1) = i + 1 := w64_id (by omega) (by omega)
  have hkg2 := hk.keep hkb (fun x => x) hkg
  obtain ⟨i1, i2, i3, i4⟩ := kid_in side ns.length i r1 r2 r3 r4
  refine Code.seq (Code.seq (Code.ops ?_))
  simp only [s48_9, ↓wP, wS, Nat.reduceEqDiff, reduceIte, Nat.reduceLeDiff, and_self, cond_true, cond_false, Nat.reduceAdd, Nat.reduceMul, e12, e14, hlt, decide_true]
  refine Code.cond (t := true) (by simp only [↓wP, wS, Nat.reduceEqDiff, reduceIte, Nat.reduceLeDiff, and_self, cond_true, cond_false, Nat.reduceAdd, Nat.reduceMul]) (fun _ => Code.skip ?_) (fun h => by cases h)
  refine Code.seq (Code.block (Code.seq (Code.ops ?_)))
  simp only [s48_10, ↓wP, wS, Nat.reduceEqDiff, reduceIte, Nat.reduceLeDiff, and_self, cond_true, cond_false, Nat.reduceAdd, Nat.reduceMul, e12, e13, bin_quo hk0]
  -- the part
  have tail : ∀ e2' : Env, (∀ q, q ∈ [1, 2, 3, 4, 5, 11, 12, 13, 14] → e2'.get q = e.get q) → e2'.get 15 = some (i64 (partW (roomOfG side ns.length rows cols) ns.length i)) →
      Code F G (.seq (.ops s48_13) (.cond (.t 55) (.seq (.ops s48_14) (.ops s48_15)) (.seq (.ops s48_16) (.ops s48_17)))) ⟨e2', h2⟩ fun fl s' => fl = .next ∧ Code F G (.ops s48_18) s' Q := by
    intro e2' hs q15
    have q1 := (hs 1 (by simp)).trans e1
    have q2 := (hs 2 (by simp)).trans e2
    have q3 := (hs 3 (by simp)).trans e3
    have q4 := (hs 4 (by simp)).trans e4
    have q5 := (hs 5 (by simp)).trans e5
    have q11 := (hs 11 (by simp)).trans e11
    have q12 := (hs 12 (by simp)).trans e12
    have q13 := (hs 13 (by simp)).trans e13
    have q14 := (hs 14 (by simp)).trans e14
    refine Code.seq (Code.ops ?_)
    simp only [s48_13, ↓wP, wS, Nat.reduceEqDiff, reduceIte, Nat.reduceLeDiff, and_self, cond_true, cond_false, Nat.reduceAdd, Nat.reduceMul, q5, rdT_of g5]
    cases side with
    | false =>
      refine Code.cond (t := true) (by simp only [↓wP, wS, Nat.reduceEqDiff, reduceIte, Nat.reduceLeDiff, and_self, cond_true, cond_false, Nat.reduceAdd, Nat.reduceMul]; rfl) (fun _ => Code.seq (Code.ops ?_)) (fun h => by cases h)
      simp only [s48_14, ↓wP, wS, Nat.reduceEqDiff, reduceIte, Nat.reduceLeDiff, and_self, cond_true, cond_false, Nat.reduceAdd, Nat.reduceMul, q1, q2, q4, q5, q11, q14, q15, rdT_of g5, hlt, h0i, and_self, if_true, Int.toNat_natCast, rdN_n hkg2 h3 hn]
      have hpr : partW (roomOfG false ns.length rows cols) ns.length i = kidRows false ns.length i rows := by rw [roomOfG, kidRows, ← share_next]; rfl
      rw [hpr]
      refine hlay h2 _ _ _ _ _ (ho.trans hk.old) (hk.fzLt hf) i1 i2 i3 i4 fun r h6 k6 hw => ?_
      obtain ⟨rb, rfl, w1, w2, w3⟩ := hw
      simp only [↓wP, wS, Nat.reduceEqDiff, reduceIte, Nat.reduceLeDiff, and_self, cond_true, cond_false, Nat.reduceAdd, Nat.reduceMul, q11]
      have acc6 : Acc h6 h.next 5 done.length (wcells done) acc := hacc.keep k6.next fun b hb => k6.get b (hacc.blk b hb).2 (fun x => x)
      have hlw := plc_length t (kidTop false ns.length i top rows) (kidLeft false ns.length i left cols) (kidRows false ns.length i rows) (kidCols false ns.length i cols)
      refine AppendQ.acc acc6 (by have := hk.next; have := k6.next; omega) (by omega) (by omega) (by rw [plc_length]; exact hd) ⟨_, _, rfl⟩ (cells_whole w3 (wcells_length _)) (wcells_length _) (wcells_one _)
        (fun b hb => by rw [k6.fz]; exact fun hm => by have := hf b (hk.fz ▸ hm); have := (acc6.blk b hb).1; omega) fun v' h7 a7 k7 b7 => ?_
      simp only [↓wP, wS, Nat.reduceEqDiff, reduceIte, Nat.reduceLeDiff, and_self, cond_true, cond_false, Nat.reduceAdd, Nat.reduceMul]
      refine Code.ops ?_
      simp only [s48_15, ↓wP, wS, Nat.reduceEqDiff, reduceIte, Nat.reduceLeDiff, and_self, cond_true, cond_false, Nat.reduceAdd, Nat.reduceMul, q1, q15]
      refine ⟨trivial, Code.ops ?_⟩
      simp only [s48_18, ↓wP, wS, Nat.reduceEqDiff, reduceIte, Nat.reduceLeDiff, and_self, cond_true, cond_false, Nat.reduceAdd, Nat.reduceMul, q14, hw2]
      have k57 : K0 h h7 := (hk.trans k6).andThen k7 (fun x hx hl => by have := (acc6.blk x hx).1; omega)
      refine hq _ ⟨?_, by simp only [↓wP, wS, Nat.reduceEqDiff, reduceIte, Nat.reduceLeDiff, and_self, cond_true, cond_false, Nat.reduceAdd, Nat.reduceMul, q2]; rfl, by simp only [↓wP, wS, Nat.reduceEqDiff, reduceIte, Nat.reduceLeDiff, and_self, cond_true, cond_false, Nat.reduceAdd, Nat.reduceMul, q3], by simp only [↓wP, wS, Nat.reduceEqDiff, reduceIte, Nat.reduceLeDiff, and_self, cond_true, cond_false, Nat.reduceAdd, Nat.reduceMul, q4], by simp only [↓wP, wS, Nat.reduceEqDiff, reduceIte, Nat.reduceLeDiff, and_self, cond_true, cond_false, Nat.reduceAdd, Nat.reduceMul, q5], by simp only [↓wP, wS, Nat.reduceEqDiff, reduceIte, Nat.reduceLeDiff, and_self, cond_true, cond_false, Nat.reduceAdd, Nat.reduceMul, q12], by simp only [↓wP, wS, Nat.reduceEqDiff, reduceIte, Nat.reduceLeDiff, and_self, cond_true, cond_false, Nat.reduceAdd, Nat.reduceMul, q13], by simp only [↓wP, wS, Nat.reduceEqDiff, reduceIte, Nat.reduceLeDiff, and_self, cond_true, cond_false, Nat.reduceAdd, Nat.reduceMul]; rfl, ⟨v', by simp only [↓wP, wS, Nat.reduceEqDiff, reduceIte, Nat.reduceLeDiff, and_self, cond_true, cond_false, Nat.reduceAdd, Nat.reduceMul], ?_, ?_⟩, k57, lo, ?_, ?_⟩
      · simp only [↓wP, wS, Nat.reduceEqDiff, reduceIte, Nat.reduceLeDiff, and_self, cond_true, cond_false, Nat.reduceAdd, Nat.reduceMul, kidTop, roomOfG, Bool.false_eq_true, if_false, top_next]
        rfl
      · simp only [wcells_append, List.length_append]
        exact a7
      · intro hb
        rcases b7 p5 hb with hx | hx
        · exact hne hx
        · have := k6.next
          omega
      · have := k7.next
        have := k6.next
        simp only
        omega
      · exact k7.keep (by have := k6.next; omega) hne (k6.keep hi (fun x => x) g5)
    | true =>
      refine Code.cond (t := false) (by simp only [↓wP, wS, Nat.reduceEqDiff, reduceIte, Nat.reduceLeDiff, and_self, cond_true, cond_false, Nat.reduceAdd, Nat.reduceMul]; rfl) (fun h => by cases h) (fun _ => Code.seq (Code.ops ?_))
      simp only [s48_16, ↓wP, wS, Nat.reduceEqDiff, reduceIte, Nat.reduceLeDiff, and_self, cond_true, cond_false, Nat.reduceAdd, Nat.reduceMul, q1, q2, q3, q5, q11, q14, q15, rdT_of g5, hlt, h0i, and_self, if_true, Int.toNat_natCast, rdN_n hkg2 h3 hn]
      have hpr : partW (roomOfG true ns.length rows cols) ns.length i = kidCols true ns.length i cols := by rw [roomOfG, kidCols, ← share_next]; rfl
      rw [hpr]
      refine hlay h2 _ _ _ _ _ (ho.trans hk.old) (hk.fzLt hf) i1 i2 i3 i4 fun r h6 k6 hw => ?_
      obtain ⟨rb, rfl, w1, w2, w3⟩ := hw
      simp only [↓wP, wS, Nat.reduceEqDiff, reduceIte, Nat.reduceLeDiff, and_self, cond_true, cond_false, Nat.reduceAdd, Nat.reduceMul, q11]
      have acc6 : Acc h6 h.next 5 done.length (wcells done) acc := hacc.keep k6.next fun b hb => k6.get b (hacc.blk b hb).2 (fun x => x)
      have hlw := plc_length t (kidTop true ns.length i top rows) (kidLeft true ns.length i left cols) (kidRows true ns.length i rows) (kidCols true ns.length i cols)
      refine AppendQ.acc acc6 (by have := hk.next; have := k6.next; omega) (by omega) (by omega) (by rw [plc_length]; exact hd) ⟨_, _, rfl⟩ (cells_whole w3 (wcells_length _)) (wcells_length _) (wcells_one _)
        (fun b hb => by rw [k6.fz]; exact fun hm => by have := hf b (hk.fz ▸ hm); have := (acc6.blk b hb).1; omega) fun v' h7 a7 k7 b7 => ?_
      simp only [↓wP, wS, Nat.reduceEqDiff, reduceIte, Nat.reduceLeDiff, and_self, cond_true, cond_false, Nat.reduceAdd, Nat.reduceMul]
      refine Code.ops ?_
      simp only [s48_17, ↓wP, wS, Nat.reduceEqDiff, reduceIte, Nat.reduceLeDiff, and_self, cond_true, cond_false, Nat.reduceAdd, Nat.reduceMul, q2, q15]
      refine ⟨trivial, Code.ops ?_⟩
      simp only [s48_18, ↓wP, wS, Nat.reduceEqDiff, reduceIte, Nat.reduceLeDiff, and_self, cond_true, cond_false, Nat.reduceAdd, Nat.reduceMul, q14, hw2]
      have k57 : K0 h h7 := (hk.trans k6).andThen k7 (fun x hx hl => by have := (acc6.blk x hx).1; omega)
      refine hq _ ⟨by simp only [↓wP, wS, Nat.reduceEqDiff, reduceIte, Nat.reduceLeDiff, and_self, cond_true, cond_false, Nat.reduceAdd, Nat.reduceMul, q1]; rfl, ?_, by simp only [↓wP, wS, Nat.reduceEqDiff, reduceIte, Nat.reduceLeDiff, and_self, cond_true, cond_false, Nat.reduceAdd, Nat.reduceMul, q3], by simp only [↓wP, wS, Nat.reduceEqDiff, reduceIte, Nat.reduceLeDiff, and_self, cond_true, cond_false, Nat.reduceAdd, Nat.reduceMul, q4], by simp only [↓wP, wS, Nat.reduceEqDiff, reduceIte, Nat.reduceLeDiff, and_self, cond_true, cond_false, Nat.reduceAdd, Nat.reduceMul, q5], by simp only [↓wP, wS, Nat.reduceEqDiff, reduceIte, Nat.reduceLeDiff, and_self, cond_true, cond_false, Nat.reduceAdd, Nat.reduceMul, q12], by simp only [↓wP, wS, Nat.reduceEqDiff, reduceIte, Nat.reduceLeDiff, and_self, cond_true, cond_false, Nat.reduceAdd, Nat.reduceMul, q13], by simp only [↓wP, wS, Nat.reduceEqDiff, reduceIte, Nat.reduceLeDiff, and_self, cond_true, cond_false, Nat.reduceAdd, Nat.reduceMul]; rfl, ⟨v', by simp only [↓wP, wS, Nat.reduceEqDiff, reduceIte, Nat.reduceLeDiff, and_self, cond_true, cond_false, Nat.reduceAdd, Nat.reduceMul], ?_, ?_⟩, k57, lo, ?_, ?_⟩
      · simp only [↓wP, wS, Nat.reduceEqDiff, reduceIte, Nat.reduceLeDiff, and_self, cond_true, cond_false, Nat.reduceAdd, Nat.reduceMul, kidLeft, roomOfG, if_true, left_next]
      · simp only [wcells_append, List.length_append]
        exact a7
      · intro hb
        rcases b7 p5 hb with hx | hx
        · exact hne hx
        · have := k6.next
          omega
      · have := k7.next
        have := k6.next
        simp only
        omega
      · exact k7.keep (by have := k6.next; omega) hne (k6.keep hi (fun x => x) g5)
  have fin : ∀ e2' : Env, (∀ q, q ∈ [1, 2, 3, 4, 5, 11, 12, 13, 14] → e2'.get q = e.get q) → e2'.get 15 = some (i64 (partW (roomOfG side ns.length rows cols) ns.length i)) →
      Code F G (.seq (.ops s48_13) (.cond (.t 55) (.seq (.ops s48_14) (.ops s48_15)) (.seq (.ops s48_16) (.ops s48_17)))) ⟨e2', h2⟩ fun fl s' => match fl with | .exit i => if i = 1 then Code F G (.ops s48_18) s' Q else Q (.exit i) s' | fl => match fl with | .next => Code F G (.ops s48_18) s' Q | fl => Q fl s' := by
    intro e2' hs q15
    refine (tail e2' hs q15).mono fun fl s' ⟨hfl, hs'⟩ => ?_
    subst hfl
    exact hs'
  refine Code.seq (Code.seq (Code.ops ?_))
  simp only [s48_11, ↓wP, wS, Nat.reduceEqDiff, reduceIte, Nat.reduceLeDiff, and_self, cond_true, cond_false, Nat.reduceAdd, Nat.reduceMul, e12, e13, e14, bin_rem hk0]
  by_cases hpt : (i : Int) < (roomOfG side ns.length rows cols).tmod ns.length
  · refine Code.cond (t := true) (by simp only [↓wP, wS, Nat.reduceEqDiff, reduceIte, Nat.reduceLeDiff, and_self, cond_true, cond_false, Nat.reduceAdd, Nat.reduceMul, hpt, decide_true]) (fun _ => Code.ops ?_) (fun h => by cases h)
    simp only [s48_12, ↓wP, wS, Nat.reduceEqDiff, reduceIte, Nat.reduceLeDiff, and_self, cond_true, cond_false, Nat.reduceAdd, Nat.reduceMul]
    refine fin _ (fun q hq => ?_) ?_
    · simp only [List.mem_cons, List.not_mem_nil, or_false] at hq
      rcases hq with rfl | rfl | rfl | rfl | rfl | rfl | rfl | rfl | rfl <;> simp only [↓wP, wS, Nat.reduceEqDiff, reduceIte, Nat.reduceLeDiff, and_self, cond_true, cond_false, Nat.reduceAdd, Nat.reduceMul]
    · simp only [↓wP, wS, Nat.reduceEqDiff, reduceIte, Nat.reduceLeDiff, and_self, cond_true, cond_false, Nat.reduceAdd, Nat.reduceMul, partW, hpt, if_true, w64_add]
  · refine Code.cond (t := false) (by simp only [↓wP, wS, Nat.reduceEqDiff, reduceIte, Nat.reduceLeDiff, and_self, cond_true, cond_false, Nat.reduceAdd, Nat.reduceMul, hpt, decide_false]) (fun h => by cases h) (fun _ => Code.skip ?_)
    refine fin _ (fun q hq => ?_) ?_
    · simp only [List.mem_cons, List.not_mem_nil, or_false] at hq
      rcases hq with rfl | rfl | rfl | rfl | rfl | rfl | rfl | rfl | rfl <;> simp only [↓wP, wS, Nat.reduceEqDiff, reduceIte, Nat.reduceLeDiff, and_self, cond_true, cond_false, Nat.reduceAdd, Nat.reduceMul]
    · simp only [↓wP, wS, Nat.reduceEqDiff, reduceIte, Nat.reduceLeDiff, and_self, cond_true, cond_false, Nat.reduceAdd, Nat.reduceMul, partW, hpt, if_false, Int.add_zero]

theorem ref_kids (TT : Tab F G) {h0 h : Hp} (ho : Old h0 h) (hf : FzLt h) {p5 kb sz : Nat} {own side : Bool} {ns : List (List Value)} {ts : List Tr} {top left rows cols : Int} (hkb : kb < h.next) (hkg : h.t.get kb = some (.cells ns.flatten sz own)) (hlen : ns.length ≤ 1000) (h3 : ∀ n ∈ ns, n.length = 3) (hl : ns.length = ts.length)
    (r1 : InR top) (r2 : InR left) (r3 : InR rows) (r4 : InR cols) (hlay : ∀ (i : Nat) (n : List Value) (t : Tr), ns[i]? = some n → ts[i]? = some t → RefLays F G h0 n t) {Q : Flow → St → Prop} :
    ∀ (m i : Nat) (done : List Wn) (s : St), ns.length = i + m → (done.length + (idss (ts.drop i)).length) * 40 ≤ 140737488355328 → RI h p5 kb ns.length side top left rows cols i done s →
      (∀ s', RI h p5 kb ns.length side top left rows cols ns.length (done ++ plcs side ns.length (ts.drop i) i top left rows cols) s' → Q (.exit 0) s') → Code F G (.loop b48_19) s Q := by
  intro m
  induction m with
  | zero =>
    intro i done s hn hlim I hq
    obtain rfl : i = ns.length := by omega
    refine Code.loop (ref_exit I fun s' I' => hq s' ?_)
    rw [List.drop_of_length_le (by omega), plcs, List.append_nil]
    exact I'
  | succ m ih =>
    intro i done s hn hlim I hq
    have hiv : i < ns.length := by omega
    have hit : i < ts.length := by omega
    have hv := List.getElem?_eq_getElem hiv
    have ht := List.getElem?_eq_getElem hit
    have hd : ts.drop i = ts[i] :: ts.drop (i + 1) := List.drop_eq_getElem_cons hit
    rw [hd, idss, List.length_append] at hlim
    refine Code.loop (ref_round TT ho hf hkb hkg hlen h3 r1 r2 r3 r4 hv (hlay i _ _ hv ht) (by omega) I fun s' I' => ?_)
    refine ih (i + 1) _ s' (by omega) ?_ I' fun s'' I'' => hq s'' ?_
    · rw [List.length_append, plc_length]
      omega
    · rw [hd, plcs, ← List.append_assoc]
      exact I''

theorem ref_grp (TT : Tab F G) {h0 h : Hp} (ho : Old h0 h) (hf : FzLt h) {kb sz : Nat} {own side : Bool} {ns : List (List Value)} {ts : List Tr} {top left rows cols : Int} (hkb : kb < h.next) (hkg : h.t.get kb = some (.cells ns.flatten sz own)) (h3 : ∀ n ∈ ns, n.length = 3) (hl : ns.length = ts.length)
    (hgood : Good (.grp side ts)) (hsmall : (ids (.grp side ts)).length ≤ 1000) (r1 : InR top) (r2 : InR left) (r3 : InR rows) (r4 : InR cols) (hlay : ∀ (i : Nat) (n : List Value) (t : Tr), ns[i]? = some n → ts[i]? = some t → RefLays F G h0 n t) {R : Value → Hp → Prop}
    (hr : ∀ r h', K0 h h' → WAt h' h.next r (plc (.grp side ts) top left rows cols) → R r h') : Call F G 48 [.agg [i64 (kindV side), i64 0, sl kb 0 ns.length 0].toArray, i64 top, i64 left, i64 rows, i64 cols] h R := by
  rw [Good] at hgood
  rw [ids] at hsmall
  have hlen : ns.length ≤ 1000 := by have := idss_len ts hgood.2; omega
  have hpos : 0 < ns.length := by have := List.length_pos_iff.2 hgood.1; omega
  have hwk : w64 ((ns.length : Int) - 1) = ns.length - 1 := w64_id (by omega) (by omega)
  refine Call.enter (TT.g _ _ (by decide)) TT.f48 (Nat.le_of_ble_eq_true rfl) ?_
  simp only [c48, envOf]
  refine Code.seq (Code.ops ?_)
  simp only [s48_0, ↓wP, wS, Nat.reduceEqDiff, reduceIte, Nat.reduceLeDiff, and_self, cond_true, cond_false, Nat.reduceAdd, Nat.reduceMul]
  refine NewQ.intro fun p5 h1 e1 n1 g1 k1 => ?_
  simp only [↓wP, wS, Nat.reduceEqDiff, reduceIte, Nat.reduceLeDiff, and_self, cond_true, cond_false, Nat.reduceAdd, Nat.reduceMul]
  refine Code.seq (Code.seq (Code.ops ?_))
  have hkind : decide (kindV side = 0) = false := by cases side <;> rfl
  simp only [s48_1, ↓wP, wS, Nat.reduceEqDiff, reduceIte, Nat.reduceLeDiff, and_self, cond_true, cond_false, Nat.reduceAdd, Nat.reduceMul, rdT_of g1, hkind]
  refine Code.cond (t := false) (by simp only [↓wP, wS, Nat.reduceEqDiff, reduceIte, Nat.reduceLeDiff, and_self, cond_true, cond_false, Nat.reduceAdd, Nat.reduceMul]) (fun hx => by cases hx) (fun _ => Code.skip ?_)
  refine Code.seq (Code.ops ?_)
  simp only [s48_3, ↓wP, wS, Nat.reduceEqDiff, reduceIte, Nat.reduceLeDiff, and_self, cond_true, cond_false, Nat.reduceAdd, Nat.reduceMul]
  refine Code.seq (Code.ops ?_)
  simp only [s48_4, ↓wP, wS, Nat.reduceEqDiff, reduceIte, Nat.reduceLeDiff, and_self, cond_true, cond_false, Nat.reduceAdd, Nat.reduceMul, rdT_of g1]
  refine Code.seq (Code.ops ?_)
  simp only [s48_5, ↓wP, wS, Nat.reduceEqDiff, reduceIte, Nat.reduceLeDiff, and_self, cond_true, cond_false, Nat.reduceAdd, Nat.reduceMul]
  have main : ∀ e : Env, e.get 1 = some (i64 top) → e.get 2 = some (i64 left) → e.get 3 = some (i64 rows) → e.get 4 = some (i64 cols) → e.get 5 = some (pt p5 0) → e.get 11 = some (.slice none 0 0) → e.get 12 = some (i64 ns.length) → e.get 13 = some (i64 (roomOfG side ns.length rows cols)) →
      Code F G (.seq (.seq (.ops s48_8) (.block 0 (.loop b48_19))) (.seq (.ops s48_20) .ret)) ⟨e, h1⟩ fun fl s => (match fl with | .exit _ => False | _ => True) ∧ ∃ vs, resVs s.e s.h [.tmp 10] = some vs ∧ R (pack vs) s.h := by
    intro e q1 q2 q3 q4 q5 q11 q12 q13
    refine Code.seq (Code.seq (Code.ops ?_))
    simp only [s48_8, ↓wP, wS, Nat.reduceEqDiff, reduceIte, Nat.reduceLeDiff, and_self, cond_true, cond_false, Nat.reduceAdd, Nat.reduceMul]
    refine Code.block (ref_kids TT ho hf (p5 := p5) (side := side) hkb hkg hlen h3 hl r1 r2 r3 r4 hlay ns.length 0 [] _ (by omega) (by rw [List.drop_zero, List.length_nil]; omega) ?_ fun s' I => ?_)
    · refine ⟨?_, ?_, by simp only [↓wP, wS, Nat.reduceEqDiff, reduceIte, Nat.reduceLeDiff, and_self, cond_true, cond_false, Nat.reduceAdd, Nat.reduceMul, q3], by simp only [↓wP, wS, Nat.reduceEqDiff, reduceIte, Nat.reduceLeDiff, and_self, cond_true, cond_false, Nat.reduceAdd, Nat.reduceMul, q4], by simp only [↓wP, wS, Nat.reduceEqDiff, reduceIte, Nat.reduceLeDiff, and_self, cond_true, cond_false, Nat.reduceAdd, Nat.reduceMul, q5], by simp only [↓wP, wS, Nat.reduceEqDiff, reduceIte, Nat.reduceLeDiff, and_self, cond_true, cond_false, Nat.reduceAdd, Nat.reduceMul, q12], by simp only [↓wP, wS, Nat.reduceEqDiff, reduceIte, Nat.reduceLeDiff, and_self, cond_true, cond_false, Nat.reduceAdd, Nat.reduceMul, q13], by simp only [↓wP, wS, Nat.reduceEqDiff, reduceIte, Nat.reduceLeDiff, and_self, cond_true, cond_false, Nat.reduceAdd, Nat.reduceMul]; rfl, ⟨.slice none 0 0, by simp only [↓wP, wS, Nat.reduceEqDiff, reduceIte, Nat.reduceLeDiff, and_self, cond_true, cond_false, Nat.reduceAdd, Nat.reduceMul, q11], Acc.nil, fun hx => by cases hx⟩, k1, by omega, by simp only; omega, g1⟩
      · simp only [↓wP, wS, Nat.reduceEqDiff, reduceIte, Nat.reduceLeDiff, and_self, cond_true, cond_false, Nat.reduceAdd, Nat.reduceMul, q1]
        cases side
        · simp only [kidTop, Bool.false_eq_true, if_false, Int.natCast_zero, share_zero, Int.add_zero, r1.w]
        · rfl
      · simp only [↓wP, wS, Nat.reduceEqDiff, reduceIte, Nat.reduceLeDiff, and_self, cond_true, cond_false, Nat.reduceAdd, Nat.reduceMul, q2]
        cases side
        · rfl
        · have h0 : w64 0 = 0 := rfl
          simp only [kidLeft, if_true, Int.natCast_zero, share_zero, Int.add_zero, h0, r2.w]
    · simp only [if_true]
      obtain ⟨e', h2⟩ := s'
      obtain ⟨_, _, _, _, _, _, _, _, ⟨acc, e11, hacc, hne⟩, hk, lo, hi, _⟩ := I
      simp only at e11 hk hacc
      refine Code.seq (Code.ops ?_)
      simp only [s48_20, ↓wP, wS, Nat.reduceEqDiff, reduceIte, Nat.reduceLeDiff, and_self, cond_true, cond_false, Nat.reduceAdd, Nat.reduceMul, e11]
      refine Code.ret ?_
      simp only [resVs, resV, pack, ↓wP, wS, Nat.reduceEqDiff, reduceIte, Nat.reduceLeDiff, and_self, cond_true, cond_false, Nat.reduceAdd, Nat.reduceMul]
      rw [List.nil_append, List.drop_zero] at hacc
      obtain ⟨ha, ⟨hz, _⟩ | ⟨hp, b, rfl, hb1, hb2, hb3⟩⟩ := hacc
      · exfalso
        rw [plcs_length] at hz
        have h1 := idss_len ts hgood.2
        omega
      · refine ⟨trivial, _, rfl, hr _ _ hk ⟨b, ?_, hb1, hb2, ?_⟩⟩
        · rw [plc, hl]
        · rw [plc, ← hl]; exact hb3
  refine Code.seq (Code.seq (Code.ops ?_))
  cases side with
  | true =>
    simp only [s48_6, ↓wP, wS, Nat.reduceEqDiff, reduceIte, Nat.reduceLeDiff, and_self, cond_true, cond_false, Nat.reduceAdd, Nat.reduceMul, rdT_of g1]
    refine Code.cond (t := true) (by simp only [↓wP, wS, Nat.reduceEqDiff, reduceIte, Nat.reduceLeDiff, and_self, cond_true, cond_false, Nat.reduceAdd, Nat.reduceMul]; rfl) (fun _ => Code.ops ?_) (fun h => by cases h)
    simp only [s48_7, ↓wP, wS, Nat.reduceEqDiff, reduceIte, Nat.reduceLeDiff, and_self, cond_true, cond_false, Nat.reduceAdd, Nat.reduceMul, hwk]
    exact main _ (by simp only [↓wP, wS, Nat.reduceEqDiff, reduceIte, Nat.reduceLeDiff, and_self, cond_true, cond_false, Nat.reduceAdd, Nat.reduceMul]) (by simp only [↓wP, wS, Nat.reduceEqDiff, reduceIte, Nat.reduceLeDiff, and_self, cond_true, cond_false, Nat.reduceAdd, Nat.reduceMul]) (by simp only [↓wP, wS, Nat.reduceEqDiff, reduceIte, Nat.reduceLeDiff, and_self, cond_true, cond_false, Nat.reduceAdd, Nat.reduceMul]) (by simp only [↓wP, wS, Nat.reduceEqDiff, reduceIte, Nat.reduceLeDiff, and_self, cond_true, cond_false, Nat.reduceAdd, Nat.reduceMul]) (by simp only [↓wP, wS, Nat.reduceEqDiff, reduceIte, Nat.reduceLeDiff, and_self, cond_true, cond_false, Nat.reduceAdd, Nat.reduceMul]) (by simp only [↓wP, wS, Nat.reduceEqDiff, reduceIte, Nat.reduceLeDiff, and_self, cond_true, cond_false, Nat.reduceAdd, Nat.reduceMul]) (by simp only [↓wP, wS, Nat.reduceEqDiff, reduceIte, Nat.reduceLeDiff, and_self, cond_true, cond_false, Nat.reduceAdd, Nat.reduceMul]) (by simp only [↓wP, wS, Nat.reduceEqDiff, reduceIte, Nat.reduceLeDiff, and_self, cond_true, cond_false, Nat.reduceAdd, Nat.reduceMul]; rfl)
  | false =>
    simp only [s48_6, ↓wP, wS, Nat.reduceEqDiff, reduceIte, Nat.reduceLeDiff, and_self, cond_true, cond_false, Nat.reduceAdd, Nat.reduceMul, rdT_of g1]
    refine Code.cond (t := false) (by simp only [↓wP, wS, Nat.reduceEqDiff, reduceIte, Nat.reduceLeDiff, and_self, cond_true, cond_false, Nat.reduceAdd, Nat.reduceMul]; rfl) (fun h => by cases h) (fun _ => Code.skip ?_)
    exact main _ (by simp only [↓wP, wS, Nat.reduceEqDiff, reduceIte, Nat.reduceLeDiff, and_self, cond_true, cond_false, Nat.reduceAdd, Nat.reduceMul]) (by simp only [↓wP, wS, Nat.reduceEqDiff, reduceIte, Nat.reduceLeDiff, and_self, cond_true, cond_false, Nat.reduceAdd, Nat.reduceMul]) (by simp only [↓wP, wS, Nat.reduceEqDiff, reduceIte, Nat.reduceLeDiff, and_self, cond_true, cond_false, Nat.reduceAdd, Nat.reduceMul]) (by simp only [↓wP, wS, Nat.reduceEqDiff, reduceIte, Nat.reduceLeDiff, and_self, cond_true, cond_false, Nat.reduceAdd, Nat.reduceMul]) (by simp only [↓wP, wS, Nat.reduceEqDiff, reduceIte, Nat.reduceLeDiff, and_self, cond_true, cond_false, Nat.reduceAdd, Nat.reduceMul]) (by simp only [↓wP, wS, Nat.reduceEqDiff, reduceIte, Nat.reduceLeDiff, and_self, cond_true, cond_false, Nat.reduceAdd, Nat.reduceMul]) (by simp only [↓wP, wS, Nat.reduceEqDiff, reduceIte, Nat.reduceLeDiff, and_self, cond_true, cond_false, Nat.reduceAdd, Nat.reduceMul]) (by simp only [↓wP, wS, Nat.reduceEqDiff, reduceIte, Nat.reduceLeDiff, and_self, cond_true, cond_false, Nat.reduceAdd, Nat.reduceMul]; rfl)
end
end Go.Eng
