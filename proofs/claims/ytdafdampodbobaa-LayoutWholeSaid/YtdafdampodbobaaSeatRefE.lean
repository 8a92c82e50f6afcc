/- The document's plain: the whole function. -/
import Derived.Test.YtdafdampodbobaaSeatRefD
namespace Go.Eng
set_option linter.unusedSimpArgs false
set_option linter.unusedVariables false

theorem into_good (side : Bool) (t : Tr) (hg : Good t) : Goods (into side t) ∧ (idss (into side t)).length ≤ (ids t).length := by
  cases t with
  | win i => simp only [into]; split <;> simp [Goods, Good, idss, ids]
  | grp s ks =>
    simp only [into]
    split
    · rw [Good] at hg
      exact ⟨hg.2, by rw [ids]; exact Nat.le_refl _⟩
    · refine ⟨by rw [Goods, Goods]; exact ⟨hg, trivial⟩, ?_⟩
      simp [idss]
theorem packT_good (side : Bool) (l : List Tr) (hg : Goods l) : Good (packT side l) ∧ (ids (packT side l)).length ≤ max 1 (idss l).length := by
  match l, hg with
  | [], _ => simp [packT, Good, ids, idss]
  | [x], hg => simp only [packT, idss, Goods] at hg ⊢; exact ⟨hg.1, by simp; omega⟩
  | x :: y :: l, hg => simp only [packT, ids]; exact ⟨by rw [Good]; exact ⟨by simp, hg⟩, Nat.le_max_right _ _⟩
mutual
theorem plainT_good : ∀ t, Good t → Good (plainT t) ∧ (ids (plainT t)).length ≤ (ids t).length
  | .win i, h => by rw [plainT]; exact ⟨h, Nat.le_refl _⟩
  | .grp side ks, h => by
    have hp := ids_pos _ h
    rw [Good] at h
    have h1 := plains_good side ks h.2
    have h2 := packT_good side _ h1.1
    rw [plainT]
    rw [ids] at hp ⊢
    exact ⟨h2.1, by omega⟩
theorem plains_good (side : Bool) : ∀ l, Goods l → Goods (plains side l) ∧ (idss (plains side l)).length ≤ (idss l).length
  | [], _ => by simp [plains, Goods]
  | t :: r, h => by
    rw [Goods] at h
    have h1 := plainT_good t h.1
    have h2 := into_good side _ h1.1
    have h3 := plains_good side r h.2
    rw [plains, goods_append, idss_append, idss, List.length_append, List.length_append]
    exact ⟨⟨h2.1, h3.1⟩, by omega⟩
end

theorem three_eq {n : List Value} (h : n.length = 3) : ∃ a b c, n = [a, b, c] := by
  match n, h with
  | [a, b, c], _ => exact ⟨a, b, c, rfl⟩

section
variable {F : FuncId → Option SFunc} {G : FuncId → List Value → Option Value}

theorem plain_exit {Z : Nat → Prop} {h : Hp} {p1 p2 kb sz : Nat} {own side : Bool} {ns : List (List Value)} {done : List Tr} {a : Value} {s : St} (I : PI h p1 p2 kb ns.length side a ns.length s) (w : NB Z h (fun b => b = p1 ∨ b = p2) done a s.h) {Q : Flow → St → Prop}
    (hq : ∀ s', s'.h = s.h → PI h p1 p2 kb ns.length side a ns.length s' → Q (.exit 0) s') : Code F G b44_12 s Q := by
  obtain ⟨e, h2⟩ := s
  obtain ⟨e1, e2, e3, e4, b1, b2, g1, g2⟩ := I
  simp only at e1 e2 e3 e4 b1 b2 g1 g2 w
  refine Code.seq (Code.seq (Code.ops ?_))
  simp only [s44_5, ↓wP, wS, Nat.reduceEqDiff, reduceIte, Nat.reduceLeDiff, and_self, cond_true, cond_false, Nat.reduceAdd, Nat.reduceMul, e1, e4, rdT_of g1, Int.lt_irrefl, decide_false]
  refine Code.cond (t := false) (by simp only [↓wP, wS, Nat.reduceEqDiff, reduceIte, Nat.reduceLeDiff, and_self, cond_true, cond_false, Nat.reduceAdd, Nat.reduceMul]) (fun h => by cases h) (fun _ => Code.exit ?_)
  exact hq _ rfl ⟨by simp only [↓wP, wS, Nat.reduceEqDiff, reduceIte, Nat.reduceLeDiff, and_self, cond_true, cond_false, Nat.reduceAdd, Nat.reduceMul, e1], by simp only [↓wP, wS, Nat.reduceEqDiff, reduceIte, Nat.reduceLeDiff, and_self, cond_true, cond_false, Nat.reduceAdd, Nat.reduceMul, e2], by simp only [↓wP, wS, Nat.reduceEqDiff, reduceIte, Nat.reduceLeDiff, and_self, cond_true, cond_false, Nat.reduceAdd, Nat.reduceMul, e3], by simp only [↓wP, wS, Nat.reduceEqDiff, reduceIte, Nat.reduceLeDiff, and_self, cond_true, cond_false, Nat.reduceAdd, Nat.reduceMul, e4], b1, b2, g1, g2⟩

theorem plain_loop (TT : Tab F G) {Z : Nat → Prop} {h0 h : Hp} (ho : Old h0 h) (hf : FzLt h) (hZ : ∀ b, Z b → b < h.next) {p1 p2 kb sz : Nat} {own side : Bool} {ns : List (List Value)} {ts : List Tr} (hkb : kb < h.next) (hkg : h.t.get kb = some (.cells ns.flatten sz own)) (h3 : ∀ n ∈ ns, n.length = 3) (hl : ns.length = ts.length) (hlen : ns.length ≤ 1000)
    (hg : Goods ts) (hp : ∀ (i : Nat) (n : List Value) (t : Tr), ns[i]? = some n → ts[i]? = some t → Plains F G Z h0 n t) {Q : Flow → St → Prop} :
    ∀ (m i : Nat) (done : List Tr) (a : Value) (s : St), ns.length = i + m → (idss done).length + (idss (ts.drop i)).length ≤ 1000 → Goods done → PI h p1 p2 kb ns.length side a i s → NB Z h (fun b => b = p1 ∨ b = p2) done a s.h →
      (∀ a' s', PI h p1 p2 kb ns.length side a' ns.length s' → NB Z h (fun b => b = p1 ∨ b = p2) (done ++ plains side (ts.drop i)) a' s'.h → Q (.exit 0) s') → Code F G (.loop b44_12) s Q := by
  intro m
  induction m with
  | zero =>
    intro i done a s hn hlim hgd I w hq
    obtain rfl : i = ns.length := by omega
    refine Code.loop (plain_exit (sz := sz) (own := own) I w fun s' he I' => hq a s' I' ?_)
    rw [List.drop_of_length_le (by omega), plains, List.append_nil, he]
    exact w
  | succ m ih =>
    intro i done a s hn hlim hgd I w hq
    have hiv : i < ns.length := by omega
    have hit : i < ts.length := by omega
    have hv := List.getElem?_eq_getElem hiv
    have ht := List.getElem?_eq_getElem hit
    have hd : ts.drop i = ts[i] :: ts.drop (i + 1) := List.drop_eq_getElem_cons hit
    have hgi := goods_get ts hg i _ ht
    have hpl := plainT_good ts[i] hgi.1
    have hin := into_good side (plainT ts[i]) hpl.1
    have hil := into_len side (plainT ts[i]) hpl.1
    have hdl := idss_len done hgd
    rw [hd, idss, List.length_append] at hlim
    refine Code.loop (plain_round TT ho hf hZ (own := own) (sz := sz) hkb hkg h3 hlen hv (hp i _ _ hv ht) (by omega) (by omega) I w fun a' s' I' w' => ?_)
    refine ih (i + 1) _ a' s' (by omega) ?_ ?_ I' w' fun a'' s'' I'' w'' => hq a'' s'' I'' ?_
    · rw [idss_append, List.length_append]
      omega
    · rw [goods_append]
      exact ⟨hgd, hin.1⟩
    · rw [hd, plains, ← List.append_assoc]
      exact w''

theorem plain_grp (TT : Tab F G) {Z : Nat → Prop} {h0 h : Hp} (ho : Old h0 h) (hf : FzLt h) (hZ : ∀ b, Z b → b < h.next) {kb sz : Nat} {own side : Bool} {ns : List (List Value)} {ts : List Tr} (hkb : kb < h.next) (hkg : h.t.get kb = some (.cells ns.flatten sz own)) (h3 : ∀ n ∈ ns, n.length = 3) (hl : ns.length = ts.length)
    (hg : Goods ts) (hsm : (idss ts).length ≤ 1000) (hp : ∀ (i : Nat) (n : List Value) (t : Tr), ns[i]? = some n → ts[i]? = some t → Plains F G Z h0 n t) {R : Value → Hp → Prop}
    (hr : ∀ n' h', K0 h h' → NAt (OrNew Z h.next) h' n' (plainT (.grp side ts)) → R (.agg n'.toArray) h') : Call F G 44 [.agg [i64 (kindV side), i64 0, sl kb 0 ns.length 0].toArray] h R := by
  have hlen : ns.length ≤ 1000 := by have := idss_len ts hg; omega
  refine Call.enter (TT.g _ _ (by decide)) TT.f44 (Nat.le_of_ble_eq_true rfl) ?_
  simp only [c44, envOf]
  refine Code.seq (Code.ops ?_)
  simp only [s44_0, ↓wP, wS, Nat.reduceEqDiff, reduceIte, Nat.reduceLeDiff, and_self, cond_true, cond_false, Nat.reduceAdd, Nat.reduceMul]
  refine NewQ.intro fun p1 h1 e1 n1 g1 k1 => ?_
  simp only [↓wP, wS, Nat.reduceEqDiff, reduceIte, Nat.reduceLeDiff, and_self, cond_true, cond_false, Nat.reduceAdd, Nat.reduceMul]
  refine NewQ.intro fun p2 h2 e2 n2 g2 k2 => ?_
  simp only [↓wP, wS, Nat.reduceEqDiff, reduceIte, Nat.reduceLeDiff, and_self, cond_true, cond_false, Nat.reduceAdd, Nat.reduceMul]
  have g1' := k2.keep (by omega) (fun x => x) g1
  have k02 := k1.trans k2
  refine Code.seq (Code.seq (Code.ops ?_))
  have hkind : decide (kindV side = 0) = false := by cases side <;> rfl
  simp only [s44_1, ↓wP, wS, Nat.reduceEqDiff, reduceIte, Nat.reduceLeDiff, and_self, cond_true, cond_false, Nat.reduceAdd, Nat.reduceMul, rdT_of g1', hkind]
  refine Code.cond (t := false) (by simp only [↓wP, wS, Nat.reduceEqDiff, reduceIte, Nat.reduceLeDiff, and_self, cond_true, cond_false, Nat.reduceAdd, Nat.reduceMul]) (fun hx => by cases hx) (fun _ => Code.skip ?_)
  refine Code.seq (Code.ops ?_)
  simp only [s44_3, ↓wP, wS, Nat.reduceEqDiff, reduceIte, Nat.reduceLeDiff, and_self, cond_true, cond_false, Nat.reduceAdd, Nat.reduceMul]
  refine Code.seq (Code.seq (Code.ops ?_))
  simp only [s44_4, ↓wP, wS, Nat.reduceEqDiff, reduceIte, Nat.reduceLeDiff, and_self, cond_true, cond_false, Nat.reduceAdd, Nat.reduceMul]
  refine Code.block (plain_loop TT ho hf hZ (p1 := p1) (p2 := p2) (side := side) (own := own) (sz := sz) hkb hkg h3 hl hlen hg hp ns.length 0 [] (.slice none 0 0) _ (by omega) (by rw [List.drop_zero]; simpa [idss] using hsm) (by simp [Goods]) ?_ ?_ fun a s' I w => ?_)
  · exact ⟨by simp only [↓wP, wS, Nat.reduceEqDiff, reduceIte, Nat.reduceLeDiff, and_self, cond_true, cond_false, Nat.reduceAdd, Nat.reduceMul], by simp only [↓wP, wS, Nat.reduceEqDiff, reduceIte, Nat.reduceLeDiff, and_self, cond_true, cond_false, Nat.reduceAdd, Nat.reduceMul], by simp only [↓wP, wS, Nat.reduceEqDiff, reduceIte, Nat.reduceLeDiff, and_self, cond_true, cond_false, Nat.reduceAdd, Nat.reduceMul], by simp only [↓wP, wS, Nat.reduceEqDiff, reduceIte, Nat.reduceLeDiff, and_self, cond_true, cond_false, Nat.reduceAdd, Nat.reduceMul]; rfl, ⟨by omega, by simp only; omega⟩, ⟨by omega, by simp only; omega⟩, g1', g2⟩
  · exact ⟨k02, ⟨[], Acc.nil, EachN.nil⟩, fun b hb => by cases hb⟩
  simp only [if_true]
  obtain ⟨e, h5⟩ := s'
  obtain ⟨q1, q2, q3, q4, b1, b2, G1, G2⟩ := I
  obtain ⟨hk, ⟨rs, ha, he⟩, hnk⟩ := w
  simp only at q1 q2 q3 q4 b1 b2 G1 G2 hk ha he
  rw [List.nil_append, List.drop_zero] at ha he
  have hf5 := hk.fzLt hf
  have hnf : p2 ∉ h5.fz := by rw [hk.fz]; exact hf.not_mem b2.1
  have fin : ∀ (n' : List Value) (h6 : Hp) (e6 : Env), NAt (OrNew Z h.next) h6 n' (plainT (.grp side ts)) → K0 h h6 → h6.t.get p2 = some (.cells n' 0 true) → e6.get 2 = some (pt p2 0) →
      (∃ vs, resVs e6 h6 [.cell (some 3) 2] = some vs ∧ R (pack vs) h6) := by
    intro n' h6 e6 hn k6 g6 he6
    have n3 := hn.three
    have hrd := rd_of (h := h6) (n := 3) (o := 0) g6 (by omega)
    rw [List.drop_zero, ← n3.1, List.take_length, n3.1] at hrd
    refine ⟨[.agg n'.toArray], ?_, hr n' h6 k6 hn⟩
    simp only [resVs, resV, he6, load_agg, hrd, Option.map_some]
  rw [plainT] at fin
  cases hps : plains side ts with
  | nil =>
    rw [hps] at ha he fin
    obtain ⟨hal, ⟨_, rfl⟩ | ⟨hx, _⟩⟩ := ha
    · refine Code.seq (Code.seq (Code.ops ?_))
      simp only [s44_13, ↓wP, wS, Nat.reduceEqDiff, reduceIte, Nat.reduceLeDiff, and_self, cond_true, cond_false, Nat.reduceAdd, Nat.reduceMul, q3]
      refine Code.cond (t := true) (by simp only [↓wP, wS, Nat.reduceEqDiff, reduceIte, Nat.reduceLeDiff, and_self, cond_true, cond_false, Nat.reduceAdd, Nat.reduceMul]; rfl) (fun _ => Code.seq (Code.ops ?_)) (fun h => by cases h)
      simp only [s44_14, ↓wP, wS, Nat.reduceEqDiff, reduceIte, Nat.reduceLeDiff, and_self, cond_true, cond_false, Nat.reduceAdd, Nat.reduceMul, q2]
      refine StoreQ.agg (by rfl) rfl G2 (by simp) hnf fun h6 n6 g6 k6 => ?_
      simp only [↓wP, wS, Nat.reduceEqDiff, reduceIte, Nat.reduceLeDiff, and_self, cond_true, cond_false, Nat.reduceAdd, Nat.reduceMul]
      have g6' : h6.t.get p2 = some (.cells [i64 0, i64 0, .slice none 0 0] 0 true) := by rw [g6]; rfl
      refine Code.ret ⟨trivial, fin _ h6 _ ?_ (hk.andThen k6 (fun x hx hl => by omega)) g6' (by simp only [↓wP, wS, Nat.reduceEqDiff, reduceIte, Nat.reduceLeDiff, and_self, cond_true, cond_false, Nat.reduceAdd, Nat.reduceMul, q2])⟩
      exact .win 0
    · simp at hx
  | cons x l =>
    rw [hps] at ha he fin
    obtain ⟨hal, ⟨hx, _⟩ | ⟨_, b, rfl, hb1, hb2, hb3⟩⟩ := ha
    · simp at hx
    have hzz : ∀ c, OrNew Z h.next c ∧ blkOf (sl b 0 (x :: l).length 0) ≠ some c → OrNew Z h.next c := fun c hc => hc.1
    have he0 : decide ((((x :: l).length : Nat) : Int) = 0) = false := by simp; omega
    refine Code.seq (Code.seq (Code.ops ?_))
    simp only [s44_13, ↓wP, wS, Nat.reduceEqDiff, reduceIte, Nat.reduceLeDiff, and_self, cond_true, cond_false, Nat.reduceAdd, Nat.reduceMul, q3]
    refine Code.cond (t := false) (by simp only [↓wP, wS, Nat.reduceEqDiff, reduceIte, Nat.reduceLeDiff, and_self, cond_true, cond_false, Nat.reduceAdd, Nat.reduceMul]; rw [← he0]; simp) (fun h => by cases h) (fun _ => Code.skip ?_)
    have hbp2 : b ≠ p2 := fun hx => hnk b rfl (.inr hx)
    cases l with
    | nil =>
      match rs, he with
      | [n], he =>
      have hn := he.2 0 n x rfl rfl
      have n3 := hn.three
      refine Code.seq (Code.seq (Code.ops ?_))
      simp only [s44_15, ↓wP, wS, Nat.reduceEqDiff, reduceIte, Nat.reduceLeDiff, and_self, cond_true, cond_false, Nat.reduceAdd, Nat.reduceMul, q3]
      refine Code.cond (t := true) (by simp only [↓wP, wS, Nat.reduceEqDiff, reduceIte, Nat.reduceLeDiff, and_self, cond_true, cond_false, Nat.reduceAdd, Nat.reduceMul]; rfl) (fun _ => Code.seq (Code.ops ?_)) (fun h => by cases h)
      have r5 := rdN_n (i := 0) (ns := [n]) hb3 (by simp [n3.1]) rfl
      rw [Nat.zero_mul] at r5
      simp only [s44_16, ↓wP, wS, Nat.reduceEqDiff, reduceIte, Nat.reduceLeDiff, and_self, cond_true, cond_false, Nat.reduceAdd, Nat.reduceMul, q3, Int.le_refl, q2, Int.toNat_zero, Nat.zero_mul, r5, show ((0 : Int) < ((0 + 1 : Nat) : Int)) = True by simp, and_self, if_true]
      refine StoreQ.agg n3.2 n3.1 G2 (by simp) hnf fun h6 n6 g6 k6 => ?_
      simp only [↓wP, wS, Nat.reduceEqDiff, reduceIte, Nat.reduceLeDiff, and_self, cond_true, cond_false, Nat.reduceAdd, Nat.reduceMul]
      have g6' : h6.t.get p2 = some (.cells n 0 true) := by rw [g6]; simp
      refine Code.ret ⟨trivial, fin _ h6 _ ?_ (hk.andThen k6 (fun x hx hl => by omega)) g6' (by simp only [↓wP, wS, Nat.reduceEqDiff, reduceIte, Nat.reduceLeDiff, and_self, cond_true, cond_false, Nat.reduceAdd, Nat.reduceMul, q2])⟩
      exact hn.move (by omega) (fun c hc hz => k6.get c hc (fun hx => hz.1.2 (.inr hx))) (fun c _ hz => hz.1.1)
    | cons y l =>
      have he1 : decide ((((x :: y :: l).length : Nat) : Int) = 1) = false := by simp; omega
      refine Code.seq (Code.seq (Code.ops ?_))
      simp only [s44_15, ↓wP, wS, Nat.reduceEqDiff, reduceIte, Nat.reduceLeDiff, and_self, cond_true, cond_false, Nat.reduceAdd, Nat.reduceMul, q3]
      refine Code.cond (t := false) (by simp only [↓wP, wS, Nat.reduceEqDiff, reduceIte, Nat.reduceLeDiff, and_self, cond_true, cond_false, Nat.reduceAdd, Nat.reduceMul]; rw [← he1]; simp) (fun h => by cases h) (fun _ => Code.skip (Code.seq (Code.ops ?_)))
      simp only [s44_17, ↓wP, wS, Nat.reduceEqDiff, reduceIte, Nat.reduceLeDiff, and_self, cond_true, cond_false, Nat.reduceAdd, Nat.reduceMul, q1, q2, q3, rdT_of G1]
      refine StoreQ.agg (by rfl) rfl G2 (by simp) hnf fun h6 n6 g6 k6 => ?_
      simp only [↓wP, wS, Nat.reduceEqDiff, reduceIte, Nat.reduceLeDiff, and_self, cond_true, cond_false, Nat.reduceAdd, Nat.reduceMul]
      have g6' : h6.t.get p2 = some (.cells [i64 (kindV side), i64 0, sl b 0 (l.length + 1 + 1) 0] 0 true) := by rw [g6]; rfl
      refine Code.ret ⟨trivial, fin _ h6 _ ?_ (hk.andThen k6 (fun x hx hl => by omega)) g6' (by simp only [↓wP, wS, Nat.reduceEqDiff, reduceIte, Nat.reduceLeDiff, and_self, cond_true, cond_false, Nat.reduceAdd, Nat.reduceMul, q2])⟩
      have hb3' := k6.keep hb2 hbp2 hb3
      have hrl : rs.length = l.length + 1 + 1 := he.1
      rw [← hrl]
      refine .grp side b _ _ rs _ (by omega) (.inr hb1) hb3' he.1 fun i n t hi ht => ?_
      exact (he.2 i n t hi ht).move (by omega) (fun c hc hz => k6.get c hc (fun hx => hz.1.2 (.inr hx))) (fun c _ hz => hz.1.1)

theorem plain_all (TT : Tab F G) {Z : Nat → Prop} {h0 : Hp} (hZ : ∀ b, Z b → b < h0.next) {n : List Value} {t : Tr} (ht : NAt Z h0 n t) : Good t → (ids t).length ≤ 1000 → Plains F G Z h0 n t := by
  induction ht with
  | win id =>
    intro _ _ h R ho hf hr
    refine Call.enter (TT.g _ _ (by decide)) TT.f44 (Nat.le_of_ble_eq_true rfl) ?_
    simp only [c44, envOf]
    refine Code.seq (Code.ops ?_)
    simp only [s44_0, ↓wP, wS, Nat.reduceEqDiff, reduceIte, Nat.reduceLeDiff, and_self, cond_true, cond_false, Nat.reduceAdd, Nat.reduceMul]
    refine NewQ.intro fun p1 h1 e1 n1 g1 k1 => ?_
    simp only [↓wP, wS, Nat.reduceEqDiff, reduceIte, Nat.reduceLeDiff, and_self, cond_true, cond_false, Nat.reduceAdd, Nat.reduceMul]
    refine NewQ.intro fun p2 h2 e2 n2 g2 k2 => ?_
    simp only [↓wP, wS, Nat.reduceEqDiff, reduceIte, Nat.reduceLeDiff, and_self, cond_true, cond_false, Nat.reduceAdd, Nat.reduceMul]
    have g1' := k2.keep (by omega) (fun x => x) g1
    have k02 := k1.trans k2
    refine Code.seq (Code.seq (Code.ops ?_))
    simp only [s44_1, ↓wP, wS, Nat.reduceEqDiff, reduceIte, Nat.reduceLeDiff, and_self, cond_true, cond_false, Nat.reduceAdd, Nat.reduceMul, rdT_of g1']
    refine Code.cond (t := true) (by simp only [↓wP, wS, Nat.reduceEqDiff, reduceIte, Nat.reduceLeDiff, and_self, cond_true, cond_false, Nat.reduceAdd, Nat.reduceMul]; rfl) (fun _ => Code.seq (Code.ops ?_)) (fun h => by cases h)
    have r1 := rdN_of (n := 3) (o := 0) g1' (by simp)
    simp only [s44_2, ↓wP, wS, Nat.reduceEqDiff, reduceIte, Nat.reduceLeDiff, and_self, cond_true, cond_false, Nat.reduceAdd, Nat.reduceMul, r1]
    refine StoreQ.agg (by rfl) rfl g2 (by simp) (by rw [k02.fz]; exact hf.not_mem (by omega)) fun h6 n6 g6 k6 => ?_
    simp only [↓wP, wS, Nat.reduceEqDiff, reduceIte, Nat.reduceLeDiff, and_self, cond_true, cond_false, Nat.reduceAdd, Nat.reduceMul]
    have hrd := rd_of (h := h6) (n := 3) (o := 0) g6 (by simp)
    refine Code.ret ⟨trivial, _, by simp only [resVs, resV, ↓wP, wS, Nat.reduceEqDiff, reduceIte, Nat.reduceLeDiff, and_self, cond_true, cond_false, Nat.reduceAdd, Nat.reduceMul, load_agg, hrd, Option.map_some]; rfl, ?_⟩
    exact hr _ _ (k02.andThen k6 (fun x hx hl => by omega)) (by rw [plainT]; exact .win id)
  | grp side kb sz own ns ts hk hz hg hl hkids ih =>
    intro hgood hsmall h R ho hf hr
    rw [Good] at hgood
    rw [ids] at hsmall
    refine plain_grp TT ho hf (fun b hb => Nat.lt_of_lt_of_le (hZ b hb) ho.next) (own := own) (sz := sz) (Nat.lt_of_lt_of_le hk ho.next) ((ho.get kb hk).trans hg) (NAt.threes hl hkids) hl hgood.2 hsmall (fun i n t hn ht => ?_) hr
    have hg2 := goods_get ts hgood.2 i t ht
    exact ih i n t hn ht hg2.1 (by omega)
end
end Go.Eng
